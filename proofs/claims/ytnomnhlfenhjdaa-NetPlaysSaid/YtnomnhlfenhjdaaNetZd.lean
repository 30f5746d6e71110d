/- Every call on a net and on the reference's net, whatever it is given. No statement is proved here; nothing is assumed. -/
import Derived.Test.YtnomnhlfenhjdaaNetZc
namespace Go.Proofs.Ytnomnhlfenhjdaa
open Go.RowKit Go.Shelf
set_option linter.unusedVariables false
set_option linter.unusedSimpArgs false
attribute [local go_sem] Oper.semAt_some

/-- What a call on a net leaves. -/
def NGot (B : Nat) (w : World) (bn : Nat) (r : Nat → Value) (e : Nat → List Sl) (L' : Rows2) (w' : World) : Prop := ∃ r1 e1, NetAt B w' bn r1 e1 (vals L') ∧ StepB B w w' ∧ Leaves bn r e r1 e1 w w'
def RGot (B : Nat) (w : World) (bn : Nat) (r : Nat → Value) (e : Nat → List Sl) (L' : Rows2) (w' : World) : Prop := ∃ r1 e1, RefAt B w' bn r1 e1 (vals L') ∧ StepB B w w' ∧ Leaves bn r e r1 e1 w w'
theorem NGot.none {B : Nat} {w : World} {bn : Nat} {r : Nat → Value} {e : Nat → List Sl} {L : Rows2} (h : NetAt B w bn r e (vals L)) : NGot B w bn r e L w := ⟨r, e, h, StepB.refl _, Leaves.same (Step.refl _ _)⟩
theorem RGot.none {B : Nat} {w : World} {bn : Nat} {r : Nat → Value} {e : Nat → List Sl} {L : Rows2} (h : RefAt B w bn r e (vals L)) : RGot B w bn r e L w := ⟨r, e, h, StepB.refl _, Leaves.same (Step.refl _ _)⟩
theorem erase_map2 {α β : Type} (f : α → β) (l : List α) (i : Nat) : (l.eraseIdx i).map f = (l.map f).eraseIdx i := by
  induction l generalizing i with
  | nil => rfl
  | cons a t ih => cases i with
    | zero => rfl
    | succ i => simp [ih]
theorem vals_len (L : Rows2) (k : Nat) : (vals L k).length = (L k).length := by simp [vals]
theorem NetAt.len {B : Nat} {w : World} {bn : Nat} {r : Nat → Value} {e : Nat → List Sl} {L : Rows2} (h : NetAt B w bn r e (vals L)) {k : Nat} (hk : k < 2) : (e k).length = (L k).length := (h.xl k hk).trans (vals_len L k)
theorem RefAt.len {B : Nat} {w : World} {bn : Nat} {r : Nat → Value} {e : Nat → List Sl} {L : Rows2} (h : RefAt B w bn r e (vals L)) {k : Nat} (hk : k < 2) : (e k).length = (L k).length := (h.xl k hk).trans (vals_len L k)
theorem vals_at {L : Rows2} {k j : Nat} (hj : j < (L k).length) : (vals L k)[j]? = some (u8s (atB L (k : Int) (j : Int))) := by
  unfold vals; rw [List.getElem?_map, atB_mem hj]; rfl
theorem vals_del {L : Rows2} {k j : Nat} (h : standE L (k : Int) (j : Int) = 0) : upd (vals L) k ((vals L k).eraseIdx j) = vals (delL L (k : Int) (j : Int)) := by
  unfold delL
  rw [if_pos h, vals_upd]
  show _ = upd (vals L) k (((L k).eraseIdx j).map u8s)
  rw [erase_map2]; rfl
theorem vals_dbl {L : Rows2} {k j : Nat} (h : dblE L (k : Int) (j : Int) = 0) : upd (vals L) k (vals L k ++ [u8s (atB L (k : Int) (j : Int))]) = vals (dblL L (k : Int) (j : Int)) := by
  unfold dblL
  rw [if_pos h, vals_upd]
  show _ = upd (vals L) k ((L k ++ [atB L (k : Int) (j : Int)]).map u8s)
  rw [List.map_append]; rfl
theorem vals_snd0 {L : Rows2} {k : Nat} {xs : List Nat} (h : sndE (k : Int) xs = 0) (hl : (L k).length < 64) : upd (vals L) k (vals L k ++ [u8s xs]) = vals (sndL L (k : Int) xs) := by
  unfold sndL
  rw [if_pos h, vals_upd]
  show _ = upd (vals L) k ((((if 64 ≤ (L k).length then (L k).eraseIdx 0 else L k)) ++ [xs]).map u8s)
  rw [if_neg (by omega), List.map_append]; rfl
theorem vals_snd1 {L : Rows2} {k : Nat} {xs : List Nat} (h : sndE (k : Int) xs = 0) (hl : 64 ≤ (L k).length) : upd (vals L) k ((vals L k).eraseIdx 0 ++ [u8s xs]) = vals (sndL L (k : Int) xs) := by
  unfold sndL
  rw [if_pos h, vals_upd]
  show _ = upd (vals L) k ((((if 64 ≤ (L k).length then (L k).eraseIdx 0 else L k)) ++ [xs]).map u8s)
  rw [if_pos hl, List.map_append, erase_map2]; rfl
theorem atB_sound {L : Rows2} (hS : Sound L) {k j : Nat} (hk : k < 2) (hj : j < (L k).length) : (atB L (k : Int) (j : Int)).length ≤ 600 ∧ ∀ x ∈ atB L (k : Int) (j : Int), x < 256 := hS.by8 k hk _ (List.mem_of_getElem? (atB_mem hj))

section
variable {B : Nat} {bn : Nat} {r : Nat → Value} {e : Nat → List Sl} {L : Rows2}
theorem no_way {w : World} (h : NetAt B w bn r e (vals L)) {way : Int} (hw : badWay way) : NoWay (.pointer (some ⟨bn, 0, none⟩)) way 1 w := noWay_bad B bn way hw (vals L) w ⟨r, e, h⟩
theorem no_at {w : World} (h : NetAt B w bn r e (vals L)) {way i : Int} (hs : standE L way i ≠ 0) : NoAt (.pointer (some ⟨bn, 0, none⟩)) way i (standE L way i) w ∧ (standE L way i = 1 ∨ standE L way i = 2 ∨ standE L way i = 6) := by
  rcases stand_cases L way i with ⟨hb, h1⟩ | ⟨hb, ho, h1⟩ | ⟨k, j, rfl, rfl, hk, hj, h1⟩
  · rw [h1]; exact ⟨NoWay.at (.inl rfl) (no_way h hb) i, .inl rfl⟩
  · rw [h1]
    unfold badWay at hb
    obtain ⟨k, rfl⟩ := Int.eq_ofNat_of_zero_le (show 0 ≤ way by omega)
    unfold outAt at ho
    exact ⟨noAt_out B bn k (by omega) i (vals L) (by rw [vals_len]; exact ho) w ⟨r, e, h⟩, .inr (.inr rfl)⟩
  · exact absurd h1 hs
theorem no_stand {w : World} (h : RefAt B w bn r e (vals L)) {way i : Int} (hs : standE L way i ≠ 0) : NoStand (.pointer (some ⟨bn, 0, none⟩)) way i (standE L way i) w ∧ (standE L way i = 1 ∨ standE L way i = 6) := by
  rcases stand_cases L way i with ⟨hb, h1⟩ | ⟨hb, ho, h1⟩ | ⟨k, j, rfl, rfl, hk, hj, h1⟩
  · rw [h1]; exact ⟨stands_way _ way i hb w, .inl rfl⟩
  · rw [h1]
    unfold badWay at hb
    obtain ⟨k, rfl⟩ := Int.eq_ofNat_of_zero_le (show 0 ≤ way by omega)
    unfold outAt at ho
    obtain ⟨q, c, hr, _, _⟩ := (h.xr k (by omega)).form
    rw [List.length_map, h.xl k (by omega), vals_len] at hr
    exact ⟨stands_out bn k i (r 0) (r 1) q _ c (by omega) ((h.rowOf (by omega)).trans hr) ho w h.xo, .inr rfl⟩
  · exact absurd h1 hs

theorem ndel_any (hS : Sound L) (way i : Int) (w : World) (h : NetAt B w bn r e (vals L)) :
    Calls Try.prog 33 #[.pointer (some ⟨bn, 0, none⟩), .int .i64 way, .int .i64 i] w fun e_ w' => ∃ v, e_ = .returned (.tuple #[v, .int .i64 (standE L way i)]) ∧ OwnAt B w' 5 v (u8s (delB L way i)) ∧ (∀ g, v.ownBlock = some g → g < w.heap.size ∧ ¬ Shuns bn r e g) ∧ NGot B w bn r e (delL L way i) w' := by
  by_cases hs : standE L way i = 0
  · rcases stand_cases L way i with ⟨hb, h1⟩ | ⟨hb, ho, h1⟩ | ⟨k, j, rfl, rfl, hk, hj, h1⟩
    · omega
    · omega
    · refine (deliver_okx B bn k j hk r e (vals L) (by rw [h.len hk]; exact hj) (by have := hS.ln k hk; rw [h.len hk]; omega) w h).mono ?_
      rintro e_ w' ⟨s, c, hs1, hc1, rfl, ho, r', hN, hB, hby, hL⟩
      rw [vals_at hj] at hc1
      cases hc1
      refine ⟨_, by rw [h1], by unfold delB; rw [if_pos h1]; exact ho, fun g hg => ?_, _, _, ?_, hB, hL⟩
      · obtain ⟨c, hc, hoo⟩ := h.elem hk hs1
        obtain ⟨_, h2, _⟩ := hoo.block hg
        exact ⟨h2, fun hsh => hsh.2.2 k hk j s hs1 hg⟩
      · rw [← vals_del h1]; exact hN
  · obtain ⟨hn, he⟩ := no_at h hs
    refine (deliver_no _ way i _ he w hn).mono ?_
    rintro e_ w' ⟨rfl, rfl⟩
    refine ⟨_, rfl, by unfold delB; rw [if_neg hs]; exact .inl ⟨rfl, rfl⟩, (fun g hg => by cases hg), ?_⟩
    unfold delL; rw [if_neg hs]; exact NGot.none h
theorem rdel_any (hS : Sound L) (way i : Int) (w : World) (h : RefAt B w bn r e (vals L)) :
    Calls Try.prog 54 #[.pointer (some ⟨bn, 0, none⟩), .int .i64 way, .int .i64 i] w fun e_ w' => ∃ v, e_ = .returned (.tuple #[v, .int .i64 (standE L way i)]) ∧ OwnAt B w' 5 v (u8s (delB L way i)) ∧ (∀ g, v.ownBlock = some g → g < w.heap.size ∧ ¬ Shuns bn r e g) ∧ RGot B w bn r e (delL L way i) w' := by
  by_cases hs : standE L way i = 0
  · rcases stand_cases L way i with ⟨hb, h1⟩ | ⟨hb, ho, h1⟩ | ⟨k, j, rfl, rfl, hk, hj, h1⟩
    · omega
    · omega
    · refine (rdeliver_ok B bn k j hk r e (vals L) (by rw [h.len hk]; exact hj) (by have := hS.ln k hk; rw [h.len hk]; omega) w h).mono ?_
      rintro e_ w' ⟨s, c, hc1, rfl, ho, r', e', hN, hB, hL, hg⟩
      rw [vals_at hj] at hc1
      cases hc1
      refine ⟨_, by rw [h1], by unfold delB; rw [if_pos h1]; exact ho, hg, _, _, ?_, hB, hL⟩
      rw [← vals_del h1]; exact hN
  · obtain ⟨hn, he⟩ := no_stand h hs
    refine (rdeliver_no _ way i _ he w hn).mono ?_
    rintro e_ w' ⟨rfl, rfl⟩
    refine ⟨_, rfl, by unfold delB; rw [if_neg hs]; exact .inl ⟨rfl, rfl⟩, (fun g hg => by cases hg), ?_⟩
    unfold delL; rw [if_neg hs]; exact RGot.none h

theorem ndbl_any (hS : Sound L) (way i : Int) (w : World) (h : NetAt B w bn r e (vals L)) :
    Calls Try.prog 32 #[.pointer (some ⟨bn, 0, none⟩), .int .i64 way, .int .i64 i] w fun e_ w' => e_ = .returned (.int .i64 (dblE L way i)) ∧ NGot B w bn r e (dblL L way i) w' := by
  by_cases hs : standE L way i = 0
  · rcases stand_cases L way i with ⟨hb, h1⟩ | ⟨hb, ho, h1⟩ | ⟨k, j, rfl, rfl, hk, hj, h1⟩
    · omega
    · omega
    · have hm := atB_sound hS hk hj
      by_cases hf : 64 ≤ (L k).length
      · have hE : dblE L (k : Int) (j : Int) = 7 := by unfold dblE; rw [if_pos h1]; exact if_pos hf
        refine (double_full B bn k j hk r e (vals L) (by rw [h.len hk]; exact hj) (by rw [h.len hk]; exact hf) w h).mono ?_
        rintro e_ w' ⟨rfl, rfl⟩
        rw [hE]
        refine ⟨rfl, ?_⟩
        unfold dblL; rw [if_neg (by rw [hE]; decide)]; exact NGot.none h
      · have hE : dblE L (k : Int) (j : Int) = 0 := by unfold dblE; rw [if_pos h1]; exact if_neg hf
        refine (double_okx B bn k j hk r e (vals L) _ (vals_at hj) (u8s_one _) (by rw [u8s_length]; omega) (by rw [h.len hk]; exact hj) (by rw [h.len hk]; omega) w h).mono ?_
        rintro e_ w' ⟨rfl, r', s, hN, hB, hby, hL⟩
        rw [hE]
        refine ⟨rfl, _, _, ?_, hB, hL⟩
        rw [← vals_dbl hE]; exact hN
  · obtain ⟨hn, he⟩ := no_at h hs
    have hE : dblE L way i = standE L way i := by unfold dblE; rw [if_neg hs]
    refine (double_no _ way i _ he w hn).mono ?_
    rintro e_ w' ⟨rfl, rfl⟩
    rw [hE]
    refine ⟨rfl, ?_⟩
    unfold dblL; rw [if_neg (by rw [hE]; exact hs)]; exact NGot.none h
theorem rdbl_any (hS : Sound L) (way i : Int) (w : World) (h : RefAt B w bn r e (vals L)) :
    Calls Try.prog 55 #[.pointer (some ⟨bn, 0, none⟩), .int .i64 way, .int .i64 i] w fun e_ w' => e_ = .returned (.int .i64 (dblE L way i)) ∧ RGot B w bn r e (dblL L way i) w' := by
  by_cases hs : standE L way i = 0
  · rcases stand_cases L way i with ⟨hb, h1⟩ | ⟨hb, ho, h1⟩ | ⟨k, j, rfl, rfl, hk, hj, h1⟩
    · omega
    · omega
    · have hm := atB_sound hS hk hj
      by_cases hf : 64 ≤ (L k).length
      · have hE : dblE L (k : Int) (j : Int) = 7 := by unfold dblE; rw [if_pos h1]; exact if_pos hf
        refine (rdouble_full B bn k j hk r e (vals L) (by rw [h.len hk]; exact hj) (by rw [h.len hk]; exact hf) w h).mono ?_
        rintro e_ w' ⟨rfl, rfl⟩
        rw [hE]
        refine ⟨rfl, ?_⟩
        unfold dblL; rw [if_neg (by rw [hE]; decide)]; exact RGot.none h
      · have hE : dblE L (k : Int) (j : Int) = 0 := by unfold dblE; rw [if_pos h1]; exact if_neg hf
        refine (rdouble_ok B bn k j hk r e (vals L) _ (vals_at hj) (u8s_one _) (by rw [u8s_length]; omega) (by rw [h.len hk]; omega) w h).mono ?_
        rintro e_ w' ⟨rfl, r', s, hN, hB, hL⟩
        rw [hE]
        refine ⟨rfl, _, _, ?_, hB, hL⟩
        rw [← vals_dbl hE]; exact hN
  · obtain ⟨hn, he⟩ := no_stand h hs
    have hE : dblE L way i = standE L way i := by unfold dblE; rw [if_neg hs]
    refine (rdouble_no _ way i _ he w hn).mono ?_
    rintro e_ w' ⟨rfl, rfl⟩
    rw [hE]
    refine ⟨rfl, ?_⟩
    unfold dblL; rw [if_neg (by rw [hE]; exact hs)]; exact RGot.none h

theorem flip_in (hS : Sound L) {k j : Nat} {b : Int} (hk : k < 2) (hj : j < (L k).length) (hb : ¬ (b < 0 ∨ 8 * ((atB L (k : Int) (j : Int)).length : Int) ≤ b)) (h1 : standE L (k : Int) (j : Int) = 0) :
    ∃ (m x : Nat), b = (m : Int) ∧ flpE L (k : Int) (j : Int) b = 0 ∧ (u8s (atB L (k : Int) (j : Int)))[m / 8]? = some (.int .u8 (x : Int)) ∧ x < 256 ∧ upd (vals L) k ((vals L k).set j ((u8s (atB L (k : Int) (j : Int))).set (m / 8) (flipV x (m % 8)))) = vals (flpL L (k : Int) (j : Int) b) := by
  have hm := atB_sound hS hk hj
  obtain ⟨m, rfl⟩ := Int.eq_ofNat_of_zero_le (show 0 ≤ b by omega)
  have hlt : m / 8 < (atB L (k : Int) (j : Int)).length := by omega
  have hE : flpE L (k : Int) (j : Int) (m : Int) = 0 := by unfold flpE; rw [if_pos h1]; exact if_neg hb
  have hx : (atB L (k : Int) (j : Int))[m / 8]? = some ((atB L (k : Int) (j : Int))[m / 8]) := List.getElem?_eq_getElem hlt
  have hxb := hm.2 _ (List.mem_of_getElem? hx)
  refine ⟨m, _, rfl, hE, by rw [u8s_get, hx]; rfl, hxb, ?_⟩
  unfold flpL
  rw [if_pos hE, vals_upd]
  show _ = upd (vals L) k (((L k).set j ((atB L (k : Int) (j : Int)).set (m / 8) (flipN ((atB L (k : Int) (j : Int))[m / 8]?.getD 0) (m % 8)))).map u8s)
  rw [List.map_set, hx, Option.getD_some, (flipV_eq hxb (Nat.mod_lt m (by omega))).1]
  congr 2
  unfold u8s
  rw [List.map_set]
theorem nflp_any (hS : Sound L) (way i b : Int) (hb63 : b < 9223372036854775808) (w : World) (h : NetAt B w bn r e (vals L)) :
    Calls Try.prog 30 #[.pointer (some ⟨bn, 0, none⟩), .int .i64 way, .int .i64 i, .int .i64 b] w fun e_ w' => e_ = .returned (.int .i64 (flpE L way i b)) ∧ NGot B w bn r e (flpL L way i b) w' := by
  by_cases hs : standE L way i = 0
  · rcases stand_cases L way i with ⟨hb, h1⟩ | ⟨hb, ho, h1⟩ | ⟨k, j, rfl, rfl, hk, hj, h1⟩
    · omega
    · omega
    · have hm := atB_sound hS hk hj
      have h64 := hS.ln k hk
      by_cases hb : b < 0 ∨ 8 * ((atB L (k : Int) (j : Int)).length : Int) ≤ b
      · have hE : flpE L (k : Int) (j : Int) b = 1 := by unfold flpE; rw [if_pos h1]; exact if_pos hb
        refine (flip_out B bn k j b hk (vals L) _ (vals_at hj) (by rw [u8s_length]; exact hb) hb63 (by rw [u8s_length]; exact hm.1) (by rw [vals_len]; exact h64) w ⟨r, e, h⟩).mono ?_
        rintro e_ w' ⟨rfl, rfl⟩
        rw [hE]
        refine ⟨rfl, ?_⟩
        unfold flpL; rw [if_neg (by rw [hE]; decide)]; exact NGot.none h
      · obtain ⟨m, x, rfl, hE, hx, hxb, hv⟩ := flip_in hS hk hj hb h1
        refine (flip_okx B bn k j m hk r e (vals L) _ x (vals_at hj) hx hxb (by rw [u8s_length]; exact hm.1) (by rw [h.len hk]; exact hj) (by rw [h.len hk]; exact h64) w h).mono ?_
        rintro e_ w' ⟨rfl, hN, hB, hL⟩
        rw [hE]
        exact ⟨rfl, r, e, by rw [← hv]; exact hN, hB, hL⟩
  · obtain ⟨hn, he⟩ := no_at h hs
    have hE : flpE L way i b = standE L way i := by unfold flpE; rw [if_neg hs]
    refine (flip_no _ way i b _ he w hn).mono ?_
    rintro e_ w' ⟨rfl, rfl⟩
    rw [hE]
    refine ⟨rfl, ?_⟩
    unfold flpL; rw [if_neg (by rw [hE]; exact hs)]; exact NGot.none h
theorem rflp_any (hS : Sound L) (way i b : Int) (w : World) (h : RefAt B w bn r e (vals L)) :
    Calls Try.prog 56 #[.pointer (some ⟨bn, 0, none⟩), .int .i64 way, .int .i64 i, .int .i64 b] w fun e_ w' => e_ = .returned (.int .i64 (flpE L way i b)) ∧ RGot B w bn r e (flpL L way i b) w' := by
  by_cases hs : standE L way i = 0
  · rcases stand_cases L way i with ⟨hb, h1⟩ | ⟨hb, ho, h1⟩ | ⟨k, j, rfl, rfl, hk, hj, h1⟩
    · omega
    · omega
    · have hm := atB_sound hS hk hj
      by_cases hb : b < 0 ∨ 8 * ((atB L (k : Int) (j : Int)).length : Int) ≤ b
      · have hE : flpE L (k : Int) (j : Int) b = 1 := by unfold flpE; rw [if_pos h1]; exact if_pos hb
        refine (rflip_out B bn k j b hk r e (vals L) _ (vals_at hj) (by rw [u8s_length]; exact hb) (by rw [u8s_length]; exact hm.1) w h).mono ?_
        rintro e_ w' ⟨rfl, rfl⟩
        rw [hE]
        refine ⟨rfl, ?_⟩
        unfold flpL; rw [if_neg (by rw [hE]; decide)]; exact RGot.none h
      · obtain ⟨m, x, rfl, hE, hx, hxb, hv⟩ := flip_in hS hk hj hb h1
        refine (rflip_ok B bn k j m hk r e (vals L) _ x (vals_at hj) hx hxb (by rw [u8s_length]; exact hm.1) w h).mono ?_
        rintro e_ w' ⟨rfl, hN, hB, hL⟩
        rw [hE]
        exact ⟨rfl, r, e, by rw [← hv]; exact hN, hB, hL⟩
  · obtain ⟨hn, he⟩ := no_stand h hs
    have hE : flpE L way i b = standE L way i := by unfold flpE; rw [if_neg hs]
    refine (rflip_no _ way i b _ he w hn).mono ?_
    rintro e_ w' ⟨rfl, rfl⟩
    rw [hE]
    refine ⟨rfl, ?_⟩
    unfold flpL; rw [if_neg (by rw [hE]; exact hs)]; exact RGot.none h

theorem reads_slice {W : World} {v : Value} {c : List Value} (h : Reads W v c) : ∃ q n, v = .slice q c.length n := by
  rcases h with ⟨q, cap, rfl, rfl, _⟩ | ⟨b, off, cap, rfl, _⟩
  · exact ⟨_, _, rfl⟩
  · exact ⟨_, _, rfl⟩
theorem snd_no {way : Int} {xs : List Nat} (h : sndE way xs ≠ 0) : sndL L way xs = L ∧ sndLost L way xs = false := ⟨by unfold sndL; rw [if_neg h], by unfold sndLost; exact decide_eq_false (fun hc => h hc.1)⟩
theorem nsnd_any (hS : Sound L) (way : Int) (v : Value) (xs : List Nat) (w : World) (h : NetAt B w bn r e (vals L)) (hv : Reads w v (u8s xs)) (h5 : V5 w v) :
    Calls Try.prog 29 #[.pointer (some ⟨bn, 0, none⟩), .int .i64 way, v] w fun e_ w' => e_ = .returned (.tuple #[.bool (sndLost L way xs), .int .i64 (sndE way xs)]) ∧ NGot B w bn r e (sndL L way xs) w' := by
  by_cases hb : badWay way
  · have hE : sndE way xs = 1 := by unfold sndE; exact if_pos hb
    obtain ⟨hn1, hn2⟩ := snd_no (L := L) (way := way) (xs := xs) (by rw [hE]; decide)
    obtain ⟨q, n, rfl⟩ := reads_slice hv
    refine (send_no _ q _ n way 1 (.inl rfl) w (no_way h hb)).mono ?_
    rintro e_ w' ⟨rfl, rfl⟩
    rw [hE, hn1, hn2]
    exact ⟨rfl, NGot.none h⟩
  · have hb' := hb
    unfold badWay at hb
    obtain ⟨k, rfl⟩ := Int.eq_ofNat_of_zero_le (show 0 ≤ way by omega)
    have hk : k < 2 := by omega
    by_cases h6 : 600 < xs.length
    · have hE : sndE (k : Int) xs = 3 := by unfold sndE; rw [if_neg hb', if_pos h6]
      obtain ⟨hn1, hn2⟩ := snd_no (L := L) (way := (k : Int)) (xs := xs) (by rw [hE]; decide)
      obtain ⟨q, n, rfl⟩ := reads_slice hv
      refine (send_long bn k (r 0) (r 1) hk q _ n (by rw [u8s_length]; exact h6) w h.xo).mono ?_
      rintro e_ w' ⟨rfl, rfl⟩
      rw [hE, hn1, hn2]
      exact ⟨rfl, NGot.none h⟩
    · have hE : sndE (k : Int) xs = 0 := by unfold sndE; rw [if_neg hb', if_neg h6]
      have h64 := hS.ln k hk
      by_cases hf : 64 ≤ (L k).length
      · have hT : sndLost L (k : Int) xs = true := by unfold sndLost; exact decide_eq_true ⟨hE, hf⟩
        refine (send_fullx B bn k hk r e (vals L) v _ (u8s_one xs) (by rw [u8s_length]; omega) (by rw [h.len hk]; exact hf) (by rw [h.len hk]; omega) w h hv h5).mono ?_
        rintro e_ w' ⟨rfl, r', e', hN, hB, hby, hL⟩
        rw [hE, hT]
        exact ⟨rfl, _, _, by rw [← vals_snd1 hE hf]; exact hN, hB, hL⟩
      · have hT : sndLost L (k : Int) xs = false := by unfold sndLost; exact decide_eq_false (fun hc => hf hc.2)
        refine (send_okx B bn k hk r e (vals L) v _ (u8s_one xs) (by rw [u8s_length]; omega) (by rw [h.len hk]; omega) w h hv).mono ?_
        rintro e_ w' ⟨rfl, r', s, hN, hB, hby, hL⟩
        rw [hE, hT]
        exact ⟨rfl, _, _, by rw [← vals_snd0 hE (by omega)]; exact hN, hB, hL⟩
theorem rsnd_any (hS : Sound L) (way : Int) (v : Value) (xs : List Nat) (w : World) (h : RefAt B w bn r e (vals L)) (hv : Reads w v (u8s xs)) :
    Calls Try.prog 53 #[.pointer (some ⟨bn, 0, none⟩), .int .i64 way, v] w fun e_ w' => e_ = .returned (.tuple #[.bool (sndLost L way xs), .int .i64 (sndE way xs)]) ∧ RGot B w bn r e (sndL L way xs) w' := by
  by_cases hb : badWay way
  · have hE : sndE way xs = 1 := by unfold sndE; exact if_pos hb
    obtain ⟨hn1, hn2⟩ := snd_no (L := L) (way := way) (xs := xs) (by rw [hE]; decide)
    obtain ⟨q, n, rfl⟩ := reads_slice hv
    refine (rsend_way _ q _ n way hb w).mono ?_
    rintro e_ w' ⟨rfl, rfl⟩
    rw [hE, hn1, hn2]
    exact ⟨rfl, RGot.none h⟩
  · have hb' := hb
    unfold badWay at hb
    obtain ⟨k, rfl⟩ := Int.eq_ofNat_of_zero_le (show 0 ≤ way by omega)
    have hk : k < 2 := by omega
    by_cases h6 : 600 < xs.length
    · have hE : sndE (k : Int) xs = 3 := by unfold sndE; rw [if_neg hb', if_pos h6]
      obtain ⟨hn1, hn2⟩ := snd_no (L := L) (way := (k : Int)) (xs := xs) (by rw [hE]; decide)
      obtain ⟨q, n, rfl⟩ := reads_slice hv
      refine (rsend_long _ q _ n k hk (by rw [u8s_length]; exact h6) w).mono ?_
      rintro e_ w' ⟨rfl, rfl⟩
      rw [hE, hn1, hn2]
      exact ⟨rfl, RGot.none h⟩
    · have hE : sndE (k : Int) xs = 0 := by unfold sndE; rw [if_neg hb', if_neg h6]
      have h64 := hS.ln k hk
      by_cases hf : 64 ≤ (L k).length
      · have hT : sndLost L (k : Int) xs = true := by unfold sndLost; exact decide_eq_true ⟨hE, hf⟩
        refine (rsend_full B bn k hk r e (vals L) v _ (u8s_one xs) (by rw [u8s_length]; omega) (by rw [h.len hk]; exact hf) (by rw [h.len hk]; omega) w h hv).mono ?_
        rintro e_ w' ⟨rfl, r', e', hN, hB, hL⟩
        rw [hE, hT]
        exact ⟨rfl, _, _, by rw [← vals_snd1 hE hf]; exact hN, hB, hL⟩
      · have hT : sndLost L (k : Int) xs = false := by unfold sndLost; exact decide_eq_false (fun hc => hf hc.2)
        refine (rsend_ok B bn k hk r e (vals L) v _ (u8s_one xs) (by rw [u8s_length]; omega) (by rw [h.len hk]; omega) w h hv).mono ?_
        rintro e_ w' ⟨rfl, r', s, hN, hB, hL⟩
        rw [hE, hT]
        exact ⟨rfl, _, _, by rw [← vals_snd0 hE (by omega)]; exact hN, hB, hL⟩
end
end Go.Proofs.Ytnomnhlfenhjdaa
