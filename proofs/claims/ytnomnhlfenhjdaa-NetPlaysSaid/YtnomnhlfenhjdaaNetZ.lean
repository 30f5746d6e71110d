/- The reference's net: Send, Deliver, Double. No statement is proved here; nothing is assumed. -/
import Derived.Test.YtnomnhlfenhjdaaNetY
import Derived.OwnWalkIn
import Derived.TacticsInMore
import Derived.LoopNIn
import Derived.LoopIn
import Derived.Deep.QuietTactic
import Derived.BigQuiet
import Derived.Maps.OwnIn
namespace Go.Proofs.Ytnomnhlfenhjdaa
open Go.RowKit Go.Shelf
set_option linter.unusedVariables false
set_option linter.unusedSimpArgs false
attribute [local go_sem] Oper.semAt_some

section
variable {B : Nat} {W W' : World} {bn way : Nat} {r : Nat → Value} {e : Nat → List Sl} {d : Nat → List (List Value)} {v' : Value}
/-- A row without one, in new memory; and one more behind it (or none). -/
theorem RefAt.renew (h : RefAt B W bn r e d) (hw : way < 2) (i : Nat) (hi : i < (e way).length) (news : List Sl) (cs : List (List Value)) (hnc : news.length = cs.length) (hn1 : news.length ≤ 1) (hs : Step [] W W') (hown : OwnAt W.heap.size W' 68 v' (((e way).eraseIdx i ++ news).map encS))
    (hnew : ∀ (j : Nat) s c, news[j]? = some s → cs[j]? = some c → OwnAt W.heap.size W' 5 (encS s) c) :
    RefAt B (W'.setCell ⟨bn, way, none⟩ v') bn (upd r way v') (upd e way ((e way).eraseIdx i ++ news)) (upd d way ((d way).eraseIdx i ++ cs)) ∧ StepB B W (W'.setCell ⟨bn, way, none⟩ v') ∧ Leaves bn r e (upd r way v') (upd e way ((e way).eraseIdx i ++ news)) W (W'.setCell ⟨bn, way, none⟩ v') ∧ RefObj W' bn (r 0) (r 1) := by
  have hlen := h.xl way hw
  have hel : ((e way).eraseIdx i).length = ((d way).eraseIdx i).length := by rw [List.length_eraseIdx_of_lt hi, List.length_eraseIdx_of_lt (by omega), hlen]
  have hat : ∀ {α : Type} (l : List α) (j : Nat), (l.eraseIdx i)[j]? = l[if j < i then j else j + 1]? := fun l j => by
    rw [List.getElem?_eraseIdx]; split <;> rfl
  have hcase : ∀ {j : Nat} {s : Sl}, ((e way).eraseIdx i ++ news)[j]? = some s → (j < ((e way).eraseIdx i).length ∧ ((e way).eraseIdx i)[j]? = some s) ∨ (j = ((e way).eraseIdx i).length ∧ news[0]? = some s) := by
    intro j s hj
    by_cases hl : j < ((e way).eraseIdx i).length
    · rw [List.getElem?_append_left hl] at hj; exact .inl ⟨hl, hj⟩
    · rw [List.getElem?_append_right (by omega)] at hj
      have h2 := (List.getElem?_eq_some_iff.1 hj).1
      have h0 : j - ((e way).eraseIdx i).length = 0 := by omega
      rw [h0] at hj
      exact .inr ⟨by omega, hj⟩
  have hns : ∀ s g, news[0]? = some s → (encS s).ownBlock = some g → W.heap.size ≤ g := by
    intro s g h0 hg
    have hl0 := (List.getElem?_eq_some_iff.1 h0).1
    exact ((hnew 0 s _ h0 (List.getElem?_eq_getElem (by omega))).block hg).1
  have hold : ∀ {k j : Nat} {s : Sl} {g : Nat}, k < 2 → (e k)[j]? = some s → (encS s).ownBlock = some g → g < W.heap.size := by
    intro k j s g hk hj hg
    obtain ⟨c, _, ho⟩ := h.elem hk hj
    exact (ho.block hg).2.1
  have hob : ∀ g, v'.ownBlock = some g → W.heap.size ≤ g := fun g hg => (hown.block hg).1
  have ht := h.turn hw (W' := W') (v' := v') (es := (e way).eraseIdx i ++ news) (ds := (d way).eraseIdx i ++ cs) (fun S _ => hs.nil_mono) (hown.low h.size) (fun g hg => .inr (hob g hg)) (by rw [List.length_append, List.length_append, hel, hnc]) (fun j s c h1 h2 => ?_) (fun k' j j' s s' g hk' h1 h2 h3 h4 => ?_)
  · refine ⟨ht.1, ht.2.1, ?_, obj_step h.xo hs (by simp)⟩
    intro g hg ⟨a1, a2, a3⟩
    refine ⟨⟨a1, fun k hk => ?_, fun k hk j s hj hgs => ?_⟩, ?_⟩
    · by_cases ek : k = way
      · subst ek; rw [upd_same]; intro hb; have := hob g hb; omega
      · rw [upd_other _ _ ek]; exact a2 k hk
    · by_cases ek : k = way
      · subst ek
        rw [upd_same] at hj
        rcases hcase hj with ⟨_, hj⟩ | ⟨_, hj⟩
        · rw [hat] at hj; exact a3 k hk _ s hj hgs
        · have := hns s g hj hgs; omega
      · rw [upd_other _ _ ek] at hj; exact a3 k hk j s hj hgs
    · rw [Below.heap_setCell W' _ _ g a1]; exact hs.same g hg (by simp)
  · rcases hcase h1 with ⟨hl, hj⟩ | ⟨hl, hj⟩
    · rw [List.getElem?_append_left (by omega), hat] at h2
      rw [hat] at hj
      exact (h.xd way hw _ s c hj h2).same hs
    · subst hl
      rw [List.getElem?_append_right (by omega), hel, Nat.sub_self] at h2
      exact (hnew 0 s c hj h2).low h.size
  · by_cases hkw : k' = way
    · subst hkw
      rw [upd_same] at h2
      refine ⟨rfl, ?_⟩
      rcases hcase h1 with ⟨hl, hj⟩ | ⟨hl, hj⟩ <;> rcases hcase h2 with ⟨hl', hj'⟩ | ⟨hl', hj'⟩
      · rw [hat] at hj hj'
        have h5 := (h.ne k' k' _ _ s s' g hk' hk' hj hj' h3 h4).2
        by_cases b1 : j < i <;> by_cases b2 : j' < i <;> simp [b1, b2] at h5 <;> omega
      · rw [hat] at hj
        have := hold hk' hj h3
        have := hns s' g hj' h4
        omega
      · rw [hat] at hj'
        have := hold hk' hj' h4
        have := hns s g hj h3
        omega
      · omega
    · rw [upd_other _ _ hkw] at h2
      rcases hcase h1 with ⟨hl, hj⟩ | ⟨hl, hj⟩
      · rw [hat] at hj
        exact absurd (h.ne way k' _ _ s s' g hw hk' hj h2 h3 h4).1 (fun e => hkw e.symm)
      · have := hold hk' h2 h4
        have := hns s g hj h3
        omega
end

theorem ref_push {B : Nat} {W w1 w4 : World} {bn way : Nat} {r : Nat → Value} {e : Nat → List Sl} {d : Nat → List (List Value)} {v' : Value} {s : Sl} {c : List Value} {o : Obj} (hw : way < 2) (h : RefAt B W bn r e d) (hs1 : Step [] W w1) (ho : OwnAt W.heap.size w1 5 (encS s) c)
    (hst : ∀ S, (∀ g, (r way).ownBlock = some g → g ∈ S) → Step S (w1.alloc o) w4) (hown : OwnAt B w4 68 v' ((e way).map encS ++ [encS s])) (hblk : ∀ g, v'.ownBlock = some g → (r way).ownBlock = some g ∨ (w1.alloc o).heap.size ≤ g) :
    (RefAt B (w4.setCell ⟨bn, way, none⟩ v') bn (upd r way v') (upd e way (e way ++ [s])) (upd d way (d way ++ [c])) ∧ StepB B W (w4.setCell ⟨bn, way, none⟩ v') ∧ Leaves bn r e (upd r way v') (upd e way (e way ++ [s])) W (w4.setCell ⟨bn, way, none⟩ v')) ∧ RefObj w4 bn (r 0) (r 1) := by
  have h1 := (h.same hs1).same (Step.alloc w1 o)
  have hp := h1.push hw (s := s) (c := c) (OwnAt.low h.size (ho.same (Step.alloc w1 o))) (fun g hg k hk j s' hs' => by
    have h2 := (ho.block hg).1
    obtain ⟨c9, _, ho9⟩ := h.elem hk hs'
    exact fun h3 => by have := (ho9.block h3).2.1; omega) hst hown hblk
  refine ⟨⟨hp.1, ((StepB.of hs1).trans (StepB.of (Step.alloc _ _))).trans hp.2.1, leaves_push hw rfl hs1 hst hblk (fun g hg => (ho.block hg).1)⟩, ?_⟩
  exact obj_step h1.xo (hst ((r way).ownBlock.toList) (fun g hg => by simp [hg])) (fun hm => by simp at hm; exact (h1.rowBlock hw hm).2.2 rfl)

set_option maxRecDepth 100000 in
set_option maxHeartbeats 1000000 in
theorem rsend_ok (B rb way : Nat) (hw : way < 2) (r : Nat → Value) (e : Nat → List Sl) (d : Nat → List (List Value)) (v : Value) (c : List Value) (h1c : ∀ u ∈ c, u.oneCell' = true) (hc : c.length ≤ 600) (hl : (e way).length < 64) (w : World) (h : RefAt B w rb r e d) (hv : Reads w v c) :
    Calls Try.prog 53 #[.pointer (some ⟨rb, 0, none⟩), .int .i64 (way : Int), v] w fun e_ w' => e_ = .returned (.tuple #[.bool false, .int .i64 0]) ∧ ∃ r' s, RefAt B w' rb (upd r way r') (upd e way (e way ++ [s])) (upd d way (d way ++ [c])) ∧ StepB B w w' ∧ Leaves rb r e (upd r way r') (upd e way (e way ++ [s])) w w' := by
  obtain ⟨i0, hi, hz0, hz1, hz2⟩ := info_parts info68
  obtain ⟨q, n, cc, rfl, hn⟩ : ∃ q n cc, v = .slice q n cc ∧ n = c.length := by
    rcases hv with ⟨q, cap, hv, h2, _⟩ | ⟨b, off, cap, hv, _⟩
    · exact ⟨q, 0, cap, hv, by simp [h2]⟩
    · exact ⟨_, _, _, hv, rfl⟩
  obtain ⟨q1, c1, hr, hc1, hm1⟩ := (h.xr way hw).form
  rw [List.length_map] at hr
  obtain ⟨L, hL⟩ : ∃ L, L = (e way).length := ⟨_, rfl⟩
  rw [← hL] at hr hl
  have hrow := row_ok rb way (r 0) (r 1) hw w h.xo
  rw [h.rowOf hw, hr] at hrow
  have HRow := Lib.hid hrow
  have H := Lib.hid h
  have HV := Lib.hid hv
  have HW := Lib.hid hw
  have H1 := Lib.hid h1c
  have HR := Lib.hid hr
  have HC := Lib.hid (show c.length < 1000000 by omega)
  have HL := Lib.hid hL
  have e1 : ((way : Int) < 0) = False := by simp
  have e2 : ((1 : Int) < (way : Int)) = False := by simp; omega
  have t1 : ((600 : Int) < (n : Int)) = False := by simp; omega
  have t2 : ((64 : Int) ≤ (L : Int)) = False := by simp; omega
  have HLL := Lib.hid hl
  clear h hv hw h1c hr hc hl hc1 hm1 hL hn hrow
  go_enter Try.func53, Try.ntmps53
  go_wp2_with (go_at_call 39; refine HRow.out.mono ?_; rintro e w' ⟨rfl, rfl⟩)
  refine (own_any (.slice q n cc) c H1.out HC.out w HV.out).mono ?_
  rintro e1 w1 ⟨v1, rfl, ho, hs⟩
  obtain ⟨q2, n2, c2, rfl⟩ := ho.slice'
  have HO := Lib.hid ho
  have HS := Lib.hid hs
  have HX := Lib.hid ((H.out.same hs).same (Step.alloc w1 (.cells #[.slice q2 n2 c2] 68)))
  clear ho hs
  go_wp2_with (at_builtin; refine wpList_push _ rfl _ _ 90 rfl 68 i0 (.slice none 0 0) 24 Try.underlying90 hi hz0 hz1 hz2 rfl B (.slice q1 L c1) ((e way).map encS) rfl (by have := HX.out.xr way HW.out; rw [HR.out] at this; exact this) rfl ⟨w1.heap.size, 0, none⟩ 1 (.slice q2 n2 c2) rfl (cell_new2 rfl) (by simp [Value.oneCell']) (by have := HLL.out; have := HL.out; simp; omega) (by omega) HX.out.size ?_; intro v' w4 hown hst hblk; obtain ⟨qa, na, ca, rfl⟩ := hown.slice'; have HP := Lib.hid (ref_push (s := (q2, n2, c2)) (c := c) HW.out H.out HS.out HO.out (by rw [HR.out]; exact hst) hown (by rw [HR.out]; exact hblk)); clear hown hst hblk)
  refine (set_ok rb way (r 0) (r 1) HW.out qa na ca w4 HP.out.2).mono ?_
  rintro e5 w5 ⟨⟨v5, rfl⟩, rfl⟩
  go_wp2
  go_ret2
  exact ⟨rfl, _, _, HP.out.1⟩

set_option maxRecDepth 100000 in
set_option maxHeartbeats 1000000 in
theorem rsend_full (B rb way : Nat) (hw : way < 2) (r : Nat → Value) (e : Nat → List Sl) (d : Nat → List (List Value)) (v : Value) (c : List Value) (h1c : ∀ u ∈ c, u.oneCell' = true) (hc : c.length ≤ 600) (hl : 64 ≤ (e way).length) (hl2 : (e way).length < 1000) (w : World) (h : RefAt B w rb r e d) (hv : Reads w v c) :
    Calls Try.prog 53 #[.pointer (some ⟨rb, 0, none⟩), .int .i64 (way : Int), v] w fun e_ w' => e_ = .returned (.tuple #[.bool true, .int .i64 0]) ∧ ∃ r1 e1, RefAt B w' rb r1 e1 (upd d way ((d way).eraseIdx 0 ++ [c])) ∧ StepB B w w' ∧ Leaves rb r e r1 e1 w w' := by
  obtain ⟨i0, hi, hz0, hz1, hz2⟩ := info_parts info68
  obtain ⟨q, n, cc, rfl, hn⟩ : ∃ q n cc, v = .slice q n cc ∧ n = c.length := by
    rcases hv with ⟨q, cap, hv, h2, _⟩ | ⟨b, off, cap, hv, _⟩
    · exact ⟨q, 0, cap, hv, by simp [h2]⟩
    · exact ⟨_, _, _, hv, rfl⟩
  obtain ⟨q1, c1, hr, hc1, hm1⟩ := (h.xr way hw).form
  rw [List.length_map] at hr
  obtain ⟨L, hL⟩ : ∃ L, L = (e way).length := ⟨_, rfl⟩
  have hwo := without_any B (r way) (e way) 0 (by omega) hl2 w (h.xr way hw)
  rw [← hL] at hr hl hl2
  rw [hr] at hwo
  have hrow := row_ok rb way (r 0) (r 1) hw w h.xo
  rw [h.rowOf hw, hr] at hrow
  have HRow := Lib.hid hrow
  have HWO := Lib.hid (show Calls Try.prog 57 #[.slice q1 L c1, .int .i64 0] w _ from hwo)
  have H := Lib.hid h
  have HV := Lib.hid hv
  have HW := Lib.hid hw
  have H1 := Lib.hid h1c
  have HR := Lib.hid hr
  have HC := Lib.hid (show c.length < 1000000 by omega)
  have HL := Lib.hid hL
  have e1 : ((way : Int) < 0) = False := by simp
  have e2 : ((1 : Int) < (way : Int)) = False := by simp; omega
  have t1 : ((600 : Int) < (n : Int)) = False := by simp; omega
  have t2 : ((64 : Int) ≤ (L : Int)) = True := by simp; omega
  have HLL := Lib.hid (And.intro hl hl2)
  clear h hv hw h1c hr hc hl hc1 hm1 hL hn hrow hwo hl2
  go_enter Try.func53, Try.ntmps53
  go_wp2_with (go_at_call 39; refine HRow.out.mono ?_; rintro e w' ⟨rfl, rfl⟩)
  refine HWO.out.mono ?_
  rintro e0 w0 ⟨v0, rfl, ho0, hs0⟩
  obtain ⟨q3, n3, c3, rfl⟩ := ho0.slice'
  have HO0 := Lib.hid ho0
  have HS0 := Lib.hid hs0
  clear ho0 hs0
  go_wp2_with fail
  refine (own_any (.slice q n cc) c H1.out HC.out w0 (HV.out.same HS0.out)).mono ?_
  rintro e1 w1 ⟨v1, rfl, ho, hs⟩
  obtain ⟨q2, n2, c2, rfl⟩ := ho.slice'
  have HO := Lib.hid ho
  have HS := Lib.hid hs
  have HX := Lib.hid ((HO0.out.same hs).same (Step.alloc w1 (.cells #[.slice q2 n2 c2] 68)))
  clear ho hs
  go_wp2_with (at_builtin; refine wpList_push _ rfl _ _ 90 rfl 68 i0 (.slice none 0 0) 24 Try.underlying90 hi hz0 hz1 hz2 rfl w.heap.size (.slice q3 n3 c3) (((e way).eraseIdx 0).map encS) rfl HX.out rfl ⟨w1.heap.size, 0, none⟩ 1 (.slice q2 n2 c2) rfl (cell_new2 rfl) (by simp [Value.oneCell']) (by have := HLL.out; have := HL.out; rw [List.length_map]; have := List.length_eraseIdx_le (e way) 0; omega) (by omega) (by have h1 := HS0.out.size; have h2 := HS.out.size; simp; omega) ?_; intro v' w4 hown hst hblk; obtain ⟨qa, na, ca, rfl⟩ := hown.slice'; have HOW := Lib.hid hown; have HST := Lib.hid hst; clear hown hst hblk)
  have hs4 : Step [] w w4 := by
    have h1 := (HS0.out.trans HS.out).trans (Step.alloc w1 (.cells #[.slice q2 n2 c2] 68))
    have h2 := HST.out ((Value.slice q3 n3 c3).ownBlock.toList) (fun g hg => by simp [hg])
    refine h1.trans' h2 (fun i hi _ => hi) (fun i hi hlt => ?_)
    simp at hi
    have := (HO0.out.block hi).1
    omega
  have hoc : OwnAt w.heap.size w4 5 (encS (q2, n2, c2)) c := by
    have h1 := (HO.out.low HS0.out.size).same (Step.alloc w1 (.cells #[.slice q2 n2 c2] 68))
    have h2 := HST.out ((Value.slice q3 n3 c3).ownBlock.toList) (fun g hg => by simp [hg])
    refine h1.step h2 (fun g hg hm => ?_)
    simp at hm
    obtain ⟨_, _, cu1, hcu1⟩ := h1.block hg
    obtain ⟨_, _, cu2, hcu2⟩ := HX.out.block hm
    exact ne_types hcu1 hcu2 (by decide) rfl
  have hp := H.out.renew HW.out 0 (by have := HLL.out; have := HL.out; omega) [(q2, n2, c2)] [c] rfl (by simp) hs4 (v' := .slice qa na ca) (by rw [List.map_append]; exact HOW.out) (fun j s c' h1 h2 => by
    have hj0 : j = 0 := by have := (List.getElem?_eq_some_iff.1 h1).1; simp at this; omega
    subst hj0
    simp at h1 h2
    subst h1 h2
    exact hoc)
  have HP := Lib.hid hp
  clear hp hs4 hoc
  refine (set_ok rb way (r 0) (r 1) HW.out qa na ca w4 HP.out.2.2.2).mono ?_
  rintro e5 w5 ⟨⟨v5, rfl⟩, rfl⟩
  go_wp2
  go_ret2
  exact ⟨rfl, _, _, HP.out.1, HP.out.2.1, HP.out.2.2.1⟩

theorem rsend_way (p q : Option Addr) (n c : Nat) (way : Int) (hw : way < 0 ∨ 2 ≤ way) (w : World) :
    Calls Try.prog 53 #[.pointer p, .int .i64 way, .slice q n c] w fun e w' => e = .returned (.tuple #[.bool false, .int .i64 1]) ∧ w = w' := by
  by_cases h1 : way < 0
  · have e1 : (way < 0) = True := by simp; omega
    clear hw h1
    go_enter Try.func53, Try.ntmps53
    go_wp2
    go_ret2
    exact ⟨rfl, rfl⟩
  · have e1 : (way < 0) = False := by simp; omega
    have e2 : ((1 : Int) < way) = True := by simp; omega
    clear hw h1
    go_enter Try.func53, Try.ntmps53
    go_wp2
    go_ret2
    exact ⟨rfl, rfl⟩
theorem rsend_long (p q : Option Addr) (n c way : Nat) (hw : way < 2) (hn : 600 < n) (w : World) :
    Calls Try.prog 53 #[.pointer p, .int .i64 (way : Int), .slice q n c] w fun e w' => e = .returned (.tuple #[.bool false, .int .i64 3]) ∧ w = w' := by
  have e1 : ((way : Int) < 0) = False := by simp
  have e2 : ((1 : Int) < (way : Int)) = False := by simp; omega
  have t1 : ((600 : Int) < (n : Int)) = True := by simp; omega
  clear hw hn
  go_enter Try.func53, Try.ntmps53
  go_wp2
  go_ret2
  exact ⟨rfl, rfl⟩
end Go.Proofs.Ytnomnhlfenhjdaa
