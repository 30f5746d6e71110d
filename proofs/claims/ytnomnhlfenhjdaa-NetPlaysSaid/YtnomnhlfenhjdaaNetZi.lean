/- NetPlays: its walk. No statement is proved here; nothing is assumed. -/
import Derived.Test.YtnomnhlfenhjdaaNetZh
import Derived.Test.YtnomnhlfenhjdaaOpen
import Derived.Test.YtnomnhlfenhjdaaRound
import Derived.OwnWalkIn
import Derived.TacticsInMore
import Derived.LoopNIn
import Derived.LoopIn
import Derived.Deep.QuietTactic
import Derived.BigQuiet
import Derived.Maps.OwnIn
import Derived.Sort.CutIn
import Derived.StillTailTactics
import Derived.Sort.QuietIn
import Derived.BigRegionIn
import Derived.Stop.RegionWithIn
import Derived.Test.YtnomnhlfenhjdaaNetT
namespace Go.Proofs.Ytnomnhlfenhjdaa
open Go.RowKit Go.Shelf
set_option linter.unusedVariables false
set_option linter.unusedSimpArgs false
attribute [local go_sem] Oper.semAt_some

set_option maxRecDepth 100000 in
def playFrame (q : Option Addr) (N cap rs bn rb : Nat) (v7 : Value) (K k : Nat) (U : Nat → Value) : Array Value := #[.slice q N cap, U 1, .pointer (some ⟨rs, 0, none⟩), .pointer (some ⟨bn, 0, none⟩), .pointer (some ⟨rb, 0, none⟩), U 5, U 6, U 7, U 8, U 9, U 10, U 11, U 12, U 13, U 14, U 15, U 16, v7, .int .i64 (K : Int), .int .i64 (k : Int), U 20, U 21, U 22, U 23, U 24, U 25, U 26, U 27, U 28, U 29, U 30, U 31, U 32, U 33, U 34, U 35, U 36, U 37, U 38, U 39, U 40, U 41, U 42, U 43, U 44, U 45, U 46, U 47, U 48, U 49, U 50, U 51, U 52, U 53, U 54, U 55, U 56, U 57, U 58, U 59, U 60, U 61, U 62, U 63, U 64, U 65, U 66, U 67, U 68, U 69, U 70, U 71, U 72, U 73, U 74, U 75, U 76, U 77, U 78, U 79, U 80, U 81, U 82, U 83, U 84]
set_option maxRecDepth 100000 in
def playFrameI (q : Option Addr) (N cap rs bn rb : Nat) (v7 : Value) (K k : Nat) (wy : Int) (U : Nat → Value) : Array Value := #[.slice q N cap, U 1, .pointer (some ⟨rs, 0, none⟩), .pointer (some ⟨bn, 0, none⟩), .pointer (some ⟨rb, 0, none⟩), U 5, U 6, .int .i64 wy, U 8, U 9, U 10, U 11, U 12, U 13, U 14, U 15, U 16, v7, .int .i64 (K : Int), .int .i64 (k : Int), U 20, U 21, U 22, U 23, U 24, U 25, U 26, U 27, U 28, U 29, U 30, U 31, U 32, U 33, U 34, U 35, U 36, U 37, U 38, U 39, U 40, U 41, U 42, U 43, U 44, U 45, U 46, U 47, U 48, U 49, U 50, U 51, U 52, U 53, U 54, U 55, U 56, U 57, U 58, U 59, U 60, U 61, U 62, U 63, U 64, U 65, U 66, U 67, U 68, U 69, U 70, U 71, U 72, U 73, U 74, U 75, U 76, U 77, U 78, U 79, U 80, U 81, U 82, U 83, U 84]
/-- The frame and the memory at the head of the loop over the calls. -/
def PlayI (q : Option Addr) (N cap bn rb : Nat) (v7 : Value) (K : Nat) (V : Nat → Nat → Value) (w : World) (a : Act) (W : World) : Prop :=
  ∃ (U : Nat → Value) (k : Nat) (L : Rows2) (Ds : List Nat), (k ≤ K) ∧ (Pair w.heap.size bn rb L L N0 N0 W ∧ Base10 w v7 K V Ds W) ∧ a = { tmps := playFrame q N cap w.heap.size bn rb v7 K k U, defers := Ds.map markAt }
theorem PlayI.intro {q : Option Addr} {N cap bn rb : Nat} {v7 : Value} {K : Nat} {V : Nat → Nat → Value} {w W : World} {tmps : Array Value} {defers : List Deferred} (k : Nat) (L : Rows2) (Ds : List Nat) (h1 : k ≤ K) (h2 : Pair w.heap.size bn rb L L N0 N0 W ∧ Base10 w v7 K V Ds W) (ht : tmps = playFrame q N cap w.heap.size bn rb v7 K k (fun i => tmps.getD i undef)) (hd : defers = Ds.map markAt) : PlayI q N cap bn rb v7 K V w { tmps := tmps, defers := defers } W :=
  ⟨fun i => tmps.getD i undef, k, L, Ds, h1, h2, by rw [hd, ← ht]⟩
/-- The same at the head of the loop over the ways. -/
def PlayJ (q : Option Addr) (N cap bn rb : Nat) (v7 : Value) (K k : Nat) (V : Nat → Nat → Value) (w : World) (a : Act) (W : World) : Prop :=
  ∃ (U : Nat → Value) (wy : Int) (L : Rows2) (Ds : List Nat), (-1 ≤ wy ∧ wy ≤ 3) ∧ (Pair w.heap.size bn rb L L N0 N0 W ∧ Base10 w v7 K V Ds W) ∧ a = { tmps := playFrameI q N cap w.heap.size bn rb v7 K k wy U, defers := Ds.map markAt }
theorem PlayJ.intro {q : Option Addr} {N cap bn rb : Nat} {v7 : Value} {K k : Nat} {V : Nat → Nat → Value} {w W : World} {tmps : Array Value} {defers : List Deferred} (wy : Int) (L : Rows2) (Ds : List Nat) (h1 : -1 ≤ wy ∧ wy ≤ 3) (h2 : Pair w.heap.size bn rb L L N0 N0 W ∧ Base10 w v7 K V Ds W) (ht : tmps = playFrameI q N cap w.heap.size bn rb v7 K k wy (fun i => tmps.getD i undef)) (hd : defers = Ds.map markAt) : PlayJ q N cap bn rb v7 K k V w { tmps := tmps, defers := defers } W :=
  ⟨fun i => tmps.getD i undef, wy, L, Ds, h1, h2, by rw [hd, ← ht]⟩

theorem Kept.form {B : Nat} {W : World} {v : Value} {K : Nat} {V : Nat → Nat → Value} (h : Kept B W v K V) : ∃ q n, v = .slice q K n ∧ K ≤ n ∧ n ≤ maxLen := by
  obtain ⟨xs, ⟨hl, ho⟩, _⟩ := h
  rcases ho with ⟨rfl, rfl⟩ | ⟨g, cap, cur, rfl, _, _, h1, h2, _⟩
  · exact ⟨_, _, rfl, Nat.le_refl _, by simp [maxLen]⟩
  · exact ⟨_, _, rfl, h1, h2⟩
theorem Rnd.made {w W : World} {bn rb : Nat} {L : Rows2} {r : Nat → Value} {e : Nat → List Sl} {r' : Nat → Value} {e' : Nat → List Sl} {v7 : Value} {K : Nat} {V : Nat → Nat → Value} {Ds : List Nat} {b8 : Nat} {row : Value} {wy : Int} (h1 : PairAt w.heap.size bn rb L L N0 N0 r e r' e' W) (h2 : Base10 w v7 K V Ds W) (h3 : Boxed W b8 90 row) (hz : W.heap.size = b8 + 1) :
    Rnd w bn rb L r e r' e' v7 K V Ds b8 row wy 0 (((W.alloc (.cells #[.int .i64 0] 3)).alloc (.cells #[.pointer (some ⟨bn, 0, none⟩)] 70)).alloc (.cells #[.int .i64 wy] 3)) := by
  have hs : Step [] W (((W.alloc (.cells #[.int .i64 0] 3)).alloc (.cells #[.pointer (some ⟨bn, 0, none⟩)] 70)).alloc (.cells #[.int .i64 wy] 3)) := ((Step.alloc _ _).trans (Step.alloc _ _)).trans (Step.alloc _ _)
  refine ⟨h1.step hs (by simp), h2.same hs, boxed_step h3 hs (by simp), ?_, ?_, ?_⟩
  · simp only [Boxed, heap_alloc_get, World.size_alloc, hz]; repeat first | rfl | rw [if_pos (by omega)] | rw [if_neg (by omega)] | rw [if_pos trivial]
  · simp only [Boxed, heap_alloc_get, World.size_alloc, hz]; repeat first | rfl | rw [if_pos (by omega)] | rw [if_neg (by omega)] | rw [if_pos trivial]
  · simp only [Boxed, heap_alloc_get, World.size_alloc, hz]; repeat first | rfl | rw [if_pos (by omega)] | rw [if_neg (by omega)] | rw [if_pos trivial]
theorem RowOf.same {W W' : World} {q : Option Addr} {n k : Nat} {V : Nat → Nat → Value} (h : RowOf W q n k V) (hs : Step [] W W') : RowOf W' q n k V := by
  rcases h with h | ⟨b, off, rfl, h⟩
  · exact .inl h
  · exact .inr ⟨b, off, rfl, fun i hi j hj => step_cell hs (h i hi j hj)⟩

set_option maxRecDepth 100000 in
set_option maxHeartbeats 8000000 in
theorem plays10_walk (q : Option Addr) (N cap : Nat) (hN : N ≤ cap) (hcap : cap ≤ maxLen) (V : Nat → Nat → Value) (w : World) (hrow : RowOf w q N 5 V)
    (hV : ∀ i, i < N → ∃ what way j bit q n cap xs, RowIs w (V i) what way j bit q n cap ∧ bit < 9223372036854775808 ∧ n = xs.length ∧ (∀ x ∈ xs, x < 256) ∧ Reads w (.slice q n cap) (u8s xs) ∧ (q = none → cap = 0)) :
    Calls Try.prog 10 #[.slice q N cap] w fun e w' => e = .returned (.bool true) ∧ Step [] w w' := by
  have HN := Lib.hid hN
  have HCP := Lib.hid hcap
  have HV := Lib.hid hV
  have HR := Lib.hid hrow
  clear hV hrow hN hcap
  refine (callsIn_wide (n := 0)).1 (callsIn_of_wp_marks Try.func10 rfl trivial ?_ rfl)
  simp only [Try.ntmps10, List.size_toArray, List.length_cons, List.length_nil, Nat.reduceAdd, Nat.reduceSub, Array.replicate_succ, Array.replicate_zero, List.push_toArray, List.append_toArray, List.nil_append, List.cons_append]
  gi_wp2_with fail
  refine (inW (netNew_any _)).mono ?_
  rintro e w1 ⟨rfl, hO, hs⟩
  have hb0 : Boxed w1 w.heap.size 4 (.bool false) := boxed_step (Boxed.new _ _ _) hs (by simp)
  have HST := Lib.hid ((Step.alloc (S := []) w (.cells #[.bool false] 4)).trans hs)
  have HO := Lib.hid hO
  have HB0 := Lib.hid hb0
  rw [World.size_alloc] at HO ⊢
  clear hO hs hb0
  gi_wp2_with fail
  obtain ⟨w2, hw2⟩ : ∃ w2, w2 = w1.alloc (.cells #[.slice none 0 0, .slice none 0 0] 97) := ⟨_, rfl⟩
  rw [← hw2]
  have hs2 : Step [] w1 w2 := by rw [hw2]; exact Step.alloc _ _
  have hlt1 := heap_lt (show w1.heap[w.heap.size + 1]? = some _ from HO.out)
  have HP := Lib.hid (show Pair w.heap.size (w.heap.size + 1) w1.heap.size (fun _ => []) (fun _ => []) N0 N0 w2 from by
    refine ⟨fun _ => .slice none 0 0, fun _ => [], fun _ => .slice none 0 0, fun _ => [], ⟨obj_step HO.out hs2 (by simp), by omega, fun k _ => ownAt_nil _ _ _, fun k _ => rfl, fun k _ j s c h => (by cases h), fun g h => (by cases h), fun k k' j j' s s' g _ _ h => (by cases h)⟩,
      ⟨by rw [hw2]; unfold RefObj; rw [heap_alloc_get, if_pos rfl], by omega, fun k _ => ownAt_nil _ _ _, fun k _ => rfl, fun k _ j s c h => (by cases h), fun g h => (by cases h), fun k k' j j' s s' g _ _ h => (by cases h)⟩,
      fun g => ?_, ⟨fun _ _ => by simp, fun _ _ xs h => by cases h⟩, ⟨fun _ _ => by simp, fun _ _ xs h => by cases h⟩, fun g h => h.elim, fun g h => h.elim⟩
    by_cases hg : g = w.heap.size + 1
    · exact .inr ⟨by omega, fun _ _ h => (by cases h), fun _ _ j s h => (by cases h)⟩
    · exact .inl ⟨hg, fun _ _ h => (by cases h), fun _ _ j s h => (by cases h)⟩)
  replace HB0 := Lib.hid (boxed_step HB0.out hs2 (by simp))
  replace HST := Lib.hid (HST.out.trans hs2)
  obtain ⟨rb, hrb⟩ : ∃ rb, rb = w1.heap.size := ⟨_, rfl⟩
  rw [← hrb] at HP ⊢
  clear hw2 hs2 hlt1 hrb HO
  obtain ⟨bn, hbn⟩ : ∃ bn, bn = w.heap.size + 1 := ⟨_, rfl⟩
  rw [← hbn] at HP ⊢
  clear hbn
  gi_wp2_with fail
  refine (inW (few_any q N cap HN.out HCP.out V w2 (HR.out.same HST.out) (fun i hi => by obtain ⟨a1, a2, a3, a4, a5, a6, a7, a8, h, _⟩ := HV.out i hi; exact ⟨_, _, _, _, _, _, _, ⟨h.v0, h.v1, h.v2, h.v3, h.v4, h.hn, h.hc⟩⟩))).mono ?_
  rintro e w3 ⟨v7, rfl, hK, hs⟩
  obtain ⟨K, hKe⟩ : ∃ K, K = min N 90 := ⟨_, rfl⟩
  rw [← hKe] at hK
  have HKN := Lib.hid (show K ≤ N by omega)
  obtain ⟨q7, n7, rfl, hKn, hn7⟩ := hK.form
  have H0 := Lib.hid (show Pair w.heap.size bn rb (fun _ => []) (fun _ => []) N0 N0 w3 ∧ Base10 w (.slice q7 K n7) K V [] w3 from ⟨HP.out.same' hs, ⟨boxed_step HB0.out hs (by simp), ⟨_, hK⟩, HST.out.trans hs, by simp, by simp⟩⟩)
  have hK90 : (K : Int) ≤ 90 := by omega
  have hKn' : K ≤ n7 := hKn
  have hn7' : n7 ≤ 9223372036854775807 := by unfold maxLen at hn7; omega
  clear hK hs hKe HP HB0 HST hKn hn7 HR HN HCP
  gi_wp2_with fail
  refine wpIn_loop (PlayI q N cap bn rb (.slice q7 K n7) K V w) (fun a _ => K - (intOf (a.tmps.getD 19 undef)).toNat) ?start ?round
  case start => exact PlayI.intro 0 _ [] (by omega) H0.out (by kernel_rfl) rfl
  case round =>
    rintro a W ⟨U, k, L, Ds, hkK, hI, rfl⟩
    simp only [playFrame]
    clear H0
    have HI := Lib.hid hI
    clear hI
    by_cases hlt : k < K
    · obtain ⟨what, way, i, bit, q2, n2, c2, xs, R, hbit, hn2, hxs, hrd, hq⟩ := HV.out k (by have := HKN.out; omega)
      obtain ⟨BB, hkp⟩ := HI.out.2.kp
      obtain ⟨g7, n7', e7, -, -, hcs⟩ := hkp.cells hlt
      injection e7 with e7a _ e7c
      subst e7a
      have hrv : rowV (V k) = [.int .i64 what, .int .i64 way, .int .i64 i, .int .i64 bit, .slice q2 (min n2 700) c2] := by unfold rowV; rw [R.v0, R.v1, R.v2, R.v3, R.v4]
      rw [hrv] at hcs
      have c0 : W.cell? ⟨g7, k * 5, none⟩ = some (.int .i64 what) := hcs 0 (by omega)
      have c1 : W.cell? ⟨g7, k * 5 + 1, none⟩ = some (.int .i64 way) := hcs 1 (by omega)
      have c2' : W.cell? ⟨g7, k * 5 + 2, none⟩ = some (.int .i64 i) := hcs 2 (by omega)
      have c3 : W.cell? ⟨g7, k * 5 + 3, none⟩ = some (.int .i64 bit) := hcs 3 (by omega)
      have c4 : W.cell? ⟨g7, k * 5 + 4, none⟩ = some (.slice q2 (min n2 700) c2) := hcs 4 (by omega)
      have HX := Lib.hid (show ∃ ys : List Nat, (∀ x ∈ ys, x < 256) ∧ ys.length ≤ 100000 ∧ Reads w (.slice q2 (min n2 700) c2) (u8s ys) from by
        refine ⟨xs.take (min n2 700), fun x h => hxs x (List.mem_of_mem_take h), by rw [List.length_take]; omega, ?_⟩
        have := hrd.take (min n2 700) (by rw [hn2]; omega) hq
        rwa [show (u8s xs).take (min n2 700) = u8s (xs.take (min n2 700)) by simp [u8s]] at this)
      have HBIT := Lib.hid hbit
      clear R hbit hn2 hxs hrd hq hkp hcs hrv e7c
      generalize min n2 700 = m2 at *
      have hki : (k : Int) < (K : Int) := by omega
      gi_wp2_with fail
      obtain ⟨W1, hW1⟩ : ∃ W1, W1 = W.alloc (.cells #[.int .i64 what, .int .i64 way, .int .i64 i, .int .i64 bit, .slice q2 m2 c2] 100) := ⟨_, rfl⟩
      rw [← hW1]
      have hs1 : Step [] W W1 := by rw [hW1]; exact Step.alloc _ _
      obtain ⟨ys, hy1, hy2, hy3⟩ := HX.out
      have hS1 : Step [] w W1 := HI.out.2.st.trans hs1
      refine (inW (show Calls Try.prog 38 #[.pointer (some ⟨bn, 0, none⟩), .pointer (some ⟨rb, 0, none⟩), .agg #[.int .i64 what, .int .i64 way, .int .i64 i, .int .i64 bit, .slice q2 m2 c2]] W1 _ from one_any w.heap.size bn rb L what way i bit HBIT.out (.slice q2 m2 c2) ys hy1 hy2 W1 hS1.size (fun W' hs => hy3.same (StepB.after (Nat.le_refl _) hS1 hs)) (HI.out.1.same' hs1))).mono ?_
      rintro e W2 ⟨rfl, L', hp, hs⟩
      have HI2 := Lib.hid (show Pair w.heap.size bn rb L' L' N0 N0 W2 ∧ Base10 w (.slice (some ⟨g7, 0, none⟩) K n7) K V Ds W2 from ⟨hp, (HI.out.2.same hs1).stepB hs (Nat.le_refl _)⟩)
      have HKK := Lib.hid hki
      clear hp hs hy1 hy2 hy3 hS1 hs1 hW1 HI c0 c1 c2' c3 c4 HX hki
      gi_wp2_with fail
      refine wpIn_loop (PlayJ q N cap bn rb (.slice (some ⟨g7, 0, none⟩) K n7) K k V w) (fun a _ => (3 - intOf (a.tmps.getD 7 undef)).toNat) ?jstart ?jround
      case jstart => exact PlayJ.intro (-1) L' Ds (by omega) HI2.out (by kernel_rfl) rfl
      case jround =>
        rintro a W ⟨U, wy, L, Ds, hwy, hI, rfl⟩
        simp only [playFrameI]
        clear HI2
        have HI := Lib.hid hI
        clear hI
        by_cases h3 : wy < 3
        · have hB := HI.out.2
          have hdf : ∀ D ∈ Ds, D < W.heap.size := fun D hD => heap_lt (hB.ds D hD).2
          have HDF := Lib.hid hdf
          have hzw : w.heap.size < W.heap.size := heap_lt hB.rs
          clear hB hdf
          by_cases hbd : badWay wy
          · gi_wp2_with fail
            refine (inW (row_no (some ⟨rb, 0, none⟩) wy hbd W)).mono ?_
            rintro e w' ⟨rfl, rfl⟩
            gi_wp2_with fail
            have HP := Lib.hid (HI.out.1.same' (Step.alloc W (.cells #[.slice none 0 0] 90)))
            have HB := Lib.hid (HI.out.2.same (Step.alloc W (.cells #[.slice none 0 0] 90)))
            have H8 := Lib.hid (Boxed.new W 90 (.slice none 0 0))
            have hz8 : (W.alloc (.cells #[.slice none 0 0] 90)).heap.size = W.heap.size + 1 := by simp
            have c8 := H8.out.cell
            obtain ⟨W4, hW4⟩ : ∃ W4, W4 = W.alloc (.cells #[.slice none 0 0] 90) := ⟨_, rfl⟩
            rw [← hW4] at HP HB H8 hz8 c8 ⊢
            obtain ⟨b8, hb8⟩ : ∃ b8, b8 = W.heap.size := ⟨_, rfl⟩
            rw [← hb8] at H8 hz8 c8 hzw HDF ⊢
            clear hW4 hb8 HI
            have HNW := Lib.hid (show ∀ X, Step [] W4 X → NoWay (.pointer (some ⟨bn, 0, none⟩)) wy 1 X from fun X hs => by obtain ⟨r, e, r', e', hpa⟩ := HP.out; exact no_way (hpa.n.same hs) hbd)
            have Q0 := Lib.hid (show ∀ n, Calls Try.prog 34 #[.pointer (some ⟨bn, 0, none⟩), .int .i64 wy] (W4.drewN n) fun e w' => e = .returned (.int .i64 0) ∧ w' = W4.drewN n from fun n => (waits_none _ wy 1 (.inl rfl) _ (HNW.out _ (Step.drewN W4 n))).mono fun e w' h => ⟨h.1, h.2.symm⟩)
            gi_quiet ((gi_at_call 34; with_reducible exact CallsIn.quiet_of_same (inW (Q0.out _))))
            have HP5 := Lib.hid (HP.out.same' (Step.drewN W4 nq))
            have HB5 := Lib.hid (HB.out.same (Step.drewN W4 nq))
            have H85 := Lib.hid (boxed_step H8.out (Step.drewN (S := []) W4 nq) (by simp))
            have hz5 : (W4.drewN nq).heap.size = b8 + 1 := hz8
            generalize W4.drewN nq = W5 at *
            clear HP HB H8 HNW Q0 c8 hz8
            gi_upto_region 14 with (fail)
            obtain ⟨r, e, r', e', hpa⟩ := HP5.out
            have HG := Lib.hid (Rnd.made (wy := wy) hpa HB5.out H85.out hz5)
            have hz7 : (((W5.alloc (.cells #[.int .i64 0] 3)).alloc (.cells #[.pointer (some ⟨bn, 0, none⟩)] 70)).alloc (.cells #[.int .i64 wy] 3)).heap.size = b8 + 4 := by simp [hz5]
            have hz6 : (W5.alloc (.cells #[.int .i64 0] 3)).heap.size = b8 + 2 := by simp [hz5]
            clear hpa HP5 HB5 H85
            gi_wp2_with fail
            refine (inW (netAll_any (some ⟨bn, 0, none⟩) wy _)).mono ?_
            rintro e w7 ⟨rfl, hw7⟩
            rw [hw7] at HG hz7
            rw [hz6]
            clear hw7 hz6 hz5
            gi_wp2_with (gi_at_call 35; refine (inW (safe_any _ _ _)).mono ?_; rintro e w' ⟨rfl, rfl⟩)
            refine range_outer2S (σ := Unit) [] rfl enters50 (by simp) rfl rfl rfl (fun _ => undef) (fun _ => undef) (fun _ _ => False) (fun _ _ => False) (fun _ _ _ => False)
              (Rnd w bn rb L r e r' e' (.slice (some ⟨g7, 0, none⟩) K n7) K V Ds b8 (.slice none 0 0) wy 0) (Rnd w bn rb L r e r' e' (.slice (some ⟨g7, 0, none⟩) K n7) K V Ds b8 (.slice none 0 0) wy 0)
              (abide_false _) (abide_false _) (fun _ => abide_false _) ?c1 ?c2 HG.out ?give ?body ?done ?stop
            case c1 => exact fun A C h hc => h.calm hc (by omega) (fun D hD => by have := HDF.out D hD; omega)
            case c2 => exact fun A C h hc => h.calm hc (by omega) (fun D hD => by have := HDF.out D hD; omega)
            case give =>
              intro l rc Jx X1 Y1 _ _ _ _ _ _ hst hrc
              refine (netAll_no (some ⟨bn, 0, none⟩) wy 1 (.inl rfl) (b8 + 2) (b8 + 2 + 1) undef X1 hst.xa.cell hst.xw.cell (no_way hst.pa.n hbd) l).mono ?_
              rintro e W' ⟨hv, rfl⟩
              exact ⟨hv, .inl ⟨hst, hrc⟩⟩
            case body => exact fun l s W _ _ h => h.elim
            case stop => exact fun D c s W _ h _ => h.elim
            case done =>
              intro D w9 hD hG hDd
              have HF := Lib.hid (show Pair w.heap.size bn rb L L N0 N0 w9 ∧ Base10 w (.slice (some ⟨g7, 0, none⟩) K n7) K V (D :: Ds) w9 from ⟨⟨r, e, r', e', hG.pa⟩, hG.pl.more (by omega) hDd (fun h => by have := HDF.out D h; omega)⟩)
              have c9 := hG.x9.cell
              have c8 := hG.x8.cell
              clear hG hDd HG
              gi_wp2_with fail
              exact ⟨PlayJ.intro (wy + 1) L (D :: Ds) (by omega) HF.out (by kernel_rfl) rfl, by simp [playFrameI, intOf]; omega⟩
          · have hww : 0 ≤ wy ∧ wy < 2 := by unfold badWay at hbd; omega
            obtain ⟨way, rfl⟩ := Int.eq_ofNat_of_zero_le hww.1
            have HWY := Lib.hid (show way < 2 by omega)
            obtain ⟨r, e, r', e', hpa⟩ := HI.out.1
            have hrow := row_ok rb way (r' 0) (r' 1) HWY.out W hpa.f.xo
            rw [hpa.f.rowOf HWY.out] at hrow
            obtain ⟨q8, c8, hr8, hc8, hm8⟩ := (hpa.f.xr way HWY.out).form
            obtain ⟨M, hM⟩ : ∃ M, M = (L way).length := ⟨_, rfl⟩
            rw [List.length_map, hpa.f.len HWY.out, ← hM] at hr8
            rw [List.length_map, hpa.f.len HWY.out, ← hM] at hc8
            have hM64 : (M : Int) ≤ 64 := by have := hpa.sf.ln way HWY.out; omega
            have hMc : M ≤ c8 := hc8
            have hcm8 : (c8 : Int) ≤ 9223372036854775807 := by unfold maxLen at hm8; omega
            rw [hr8] at hrow
            have HRow := Lib.hid hrow
            have HR8 := Lib.hid hr8
            have HM := Lib.hid hM
            have HPA := Lib.hid hpa
            have HFAR := Lib.hid (show ∀ g, W.heap.size ≤ g → Shuns bn r e g ∧ Shuns rb r' e' g from fun g hg => hpa.fresh hg)
            clear hrow hr8 hc8 hm8 hM hpa hww hbd
            gi_wp2_with fail
            refine (inW HRow.out).mono ?_
            rintro e1 w' ⟨rfl, rfl⟩
            gi_wp2_with fail
            have HP := Lib.hid (HPA.out.step (Step.alloc (S := []) W (.cells #[.slice q8 M c8] 90)) (by simp))
            have HB := Lib.hid (HI.out.2.same (Step.alloc W (.cells #[.slice q8 M c8] 90)))
            have H8 := Lib.hid (Boxed.new W 90 (.slice q8 M c8))
            have hz8 : (W.alloc (.cells #[.slice q8 M c8] 90)).heap.size = W.heap.size + 1 := by simp
            have k8 := H8.out.cell
            obtain ⟨W4, hW4⟩ : ∃ W4, W4 = W.alloc (.cells #[.slice q8 M c8] 90) := ⟨_, rfl⟩
            rw [← hW4] at HP HB H8 hz8 k8 ⊢
            obtain ⟨b8, hb8⟩ : ∃ b8, b8 = W.heap.size := ⟨_, rfl⟩
            rw [← hb8] at H8 hz8 k8 hzw HDF HFAR ⊢
            clear hW4 hb8 HI HPA HRow
            have Q0 := Lib.hid (show ∀ n, Calls Try.prog 34 #[.pointer (some ⟨bn, 0, none⟩), .int .i64 (way : Int)] (W4.drewN n) fun e w' => e = .returned (.int .i64 (M : Int)) ∧ w' = W4.drewN n from fun n => (by
              have := waits_L w.heap.size bn way HWY.out (vals L) (W4.drewN n) ⟨r, e, (HP.out.step (Step.drewN (S := []) W4 n) (by simp)).n⟩
              rw [vals_len, ← HM.out] at this
              exact this.mono fun e w' h => ⟨h.1, h.2.symm⟩))
            gi_quiet ((gi_at_call 34; with_reducible exact CallsIn.quiet_of_same (inW (Q0.out _))))
            have HP5 := Lib.hid (HP.out.step (Step.drewN (S := []) W4 nq) (by simp))
            have HB5 := Lib.hid (HB.out.same (Step.drewN W4 nq))
            have H85 := Lib.hid (boxed_step H8.out (Step.drewN (S := []) W4 nq) (by simp))
            have hz5 : (W4.drewN nq).heap.size = b8 + 1 := hz8
            generalize W4.drewN nq = W5 at *
            clear HP HB H8 Q0 k8 hz8
            gi_upto_region 14 with (fail)
            have HG := Lib.hid (Rnd.made (wy := (way : Int)) HP5.out HB5.out H85.out hz5)
            have hz7 : (((W5.alloc (.cells #[.int .i64 0] 3)).alloc (.cells #[.pointer (some ⟨bn, 0, none⟩)] 70)).alloc (.cells #[.int .i64 (way : Int)] 3)).heap.size = b8 + 4 := by simp [hz5]
            have hz6 : (W5.alloc (.cells #[.int .i64 0] 3)).heap.size = b8 + 2 := by simp [hz5]
            clear HP5 HB5 H85
            gi_wp2_with fail
            refine (inW (netAll_any (some ⟨bn, 0, none⟩) (way : Int) _)).mono ?_
            rintro e1 w7 ⟨rfl, hw7⟩
            rw [hw7] at HG hz7
            rw [hz6]
            clear hw7 hz6 hz5
            gi_wp2_with (gi_at_call 35; refine (inW (safe_any _ _ _)).mono ?_; rintro e w' ⟨rfl, rfl⟩)
            have HZ7 := Lib.hid hz7
            have hIc : ∀ j A C, Rnd w bn rb L r e r' e' (.slice (some ⟨g7, 0, none⟩) K n7) K V Ds b8 (.slice q8 M c8) (way : Int) j A → Calm w7.heap.size A C → Rnd w bn rb L r e r' e' (.slice (some ⟨g7, 0, none⟩) K n7) K V Ds b8 (.slice q8 M c8) (way : Int) j C := fun j A C h hc => h.calm hc (by rw [HZ7.out]; omega) (fun D hD => by have := HDF.out D hD; have := HZ7.out; omega)
            have HIC := Lib.hid hIc
            have hSnd := HG.out.pa.sn
            have HALL := Lib.hid (show ∀ (j : Nat) c, (vals L way)[j]? = some c → (∀ u ∈ c, u.oneCell' = true) ∧ c.length < 1000000 from by
              intro j c hc
              unfold vals at hc
              rw [List.getElem?_map] at hc
              cases h : (L way)[j]? with
              | none => rw [h] at hc; cases hc
              | some p => rw [h] at hc; cases hc; exact ⟨u8s_one _, by rw [u8s_length]; have := (hSnd.by8 way HWY.out p (List.mem_of_getElem? h)).1; omega⟩)
            have HSN := Lib.hid hSnd
            clear hSnd hz7
            refine range_outer2S (σ := Nat × Value × Value) [] rfl enters50 (by simp) rfl rfl rfl (fun s => .int .i64 (s.1 : Int)) (fun s => s.2.1)
              (AllMid w7.heap.size way e (vals L) (Rnd w bn rb L r e r' e' (.slice (some ⟨g7, 0, none⟩) K n7) K V Ds b8 (.slice q8 M c8) (way : Int))) (AllPn w7.heap.size way e (Rnd w bn rb L r e r' e' (.slice (some ⟨g7, 0, none⟩) K n7) K V Ds b8 (.slice q8 M c8) (way : Int))) (fun _ _ _ => False)
              (Rnd w bn rb L r e r' e' (.slice (some ⟨g7, 0, none⟩) K n7) K V Ds b8 (.slice q8 M c8) (way : Int) 0) (Rnd w bn rb L r e r' e' (.slice (some ⟨g7, 0, none⟩) K n7) K V Ds b8 (.slice q8 M c8) (way : Int) (vals L way).length)
              (allMid_abide hIc) (allPn_abide hIc) (fun _ => abide_false _) (hIc 0) (hIc _) HG.out
              (fun l rc Jx W1 X1 hsz hX hrc hrb hJx hY h0 hr0 => netAll_gives w.heap.size w7.heap.size bn way (b8 + 2) (b8 + 2 + 1) HWY.out r e (vals L) HALL.out (by rw [vals_len, ← HM.out]; omega) (Rnd w bn rb L r e r' e' (.slice (some ⟨g7, 0, none⟩) K n7) K V Ds b8 (.slice q8 M c8) (way : Int)) HIC.out (fun k W h => ⟨h.xa.cell, h.xw.cell, h.pa.n⟩) l rc Jx W1 X1 hsz hX hrc hrb hJx hY h0 hr0) ?gbody ?gdone ?gstop
            case gstop => exact fun D c s W _ h _ => h.elim
            case gbody =>
              clear hIc
              rintro lr ⟨j, vk, row⟩ W6 hl _ ⟨hj, hS, hrow, c, hc, ho⟩
              have hj' : j < (vals L way).length := hj
              have hS' : Rnd w bn rb L r e r' e' (.slice (some ⟨g7, 0, none⟩) K n7) K V Ds b8 (.slice q8 M c8) (way : Int) j W6 := hS
              have hrow' : OwnAt w7.heap.size W6 68 row ((e way).map encS) := hrow
              have hc' : (vals L way)[j]? = some c := hc
              have ho' : OwnAt w7.heap.size W6 5 vk c := ho
              clear hj hS hrow hc ho
              rw [vals_len, ← HM.out] at hj'
              have hjl : j < (L way).length := by rw [← HM.out]; exact hj'
              obtain ⟨xs1, hxs1⟩ : ∃ xs, (L way)[j]? = some xs := ⟨_, List.getElem?_eq_getElem hjl⟩
              obtain rfl : u8s xs1 = c := by unfold vals at hc'; rw [List.getElem?_map, hxs1] at hc'; exact Option.some.inj hc'
              have hxm := HSN.out.by8 way HWY.out xs1 (List.mem_of_getElem? hxs1)
              have hF := hS'.pa.f
              obtain ⟨s, hs⟩ : ∃ s, (e' way)[j]? = some s := ⟨_, List.getElem?_eq_getElem (by rw [hF.len HWY.out]; exact hjl)⟩
              obtain ⟨c', hc2, hoe⟩ := hF.elem HWY.out hs
              obtain rfl : c' = u8s xs1 := by unfold vals at hc2; rw [List.getElem?_map, hxs1] at hc2; exact (Option.some.inj hc2).symm
              obtain ⟨g8, o8, c8', hr8, e2, e3, hce0⟩ := (hF.xr way HWY.out).at (j := j) (x := encS s) (by simp [hs])
              rw [HR8.out] at hr8
              clear e2 e3
              injection hr8 with e1 e2 e3
              subst e1
              clear e2 e3
              obtain ⟨sq, sn, sc⟩ := s
              have hce : W6.cell? ⟨g8, o8 + j, none⟩ = some (.slice sq sn sc) := hce0
              clear hce0
              have HEQ := Lib.hid (equal_any vk (.slice sq sn sc) xs1 hxm.2 W6 ho'.reads hoe.reads)
              obtain ⟨q9, c9, hv9, hn9, hm9⟩ := ho'.form
              obtain ⟨n9, hn9e⟩ : ∃ n9, n9 = (u8s xs1).length := ⟨_, rfl⟩
              rw [← hn9e] at hv9 hn9
              subst hv9
              have hn9c : n9 ≤ c9 := hn9
              have hc9m : (c9 : Int) ≤ 9223372036854775807 := by unfold maxLen at hm9; omega
              have hn9k : (n9 : Int) ≤ 600 := by rw [hn9e, u8s_length]; have := hxm.1; omega
              have hji : (j : Int) < (M : Int) := by omega
              have tge : ((M : Int) ≤ (j : Int)) = False := by simp; omega
              have cX9 := hS'.x9.cell
              have fX9 := hS'.x9.frozen
              have cX8 := hS'.x8.cell
              obtain ⟨hcn, hst1⟩ := hS'.count (by omega)
              have hS1 : ∀ i ∈ [b8 + 1], ∀ o, W6.heap[i]? = some o → netTyped o = false := fun i hi o ho => by
                simp at hi; subst hi
                rw [show W6.heap[b8 + 1]? = _ from hS'.x9] at ho; cases ho; rfl
              have HL := Lib.hid (show Rnd w bn rb L r e r' e' (.slice (some ⟨g7, 0, none⟩) K n7) K V Ds b8 (.slice (some ⟨g8, o8, none⟩) M c8) (way : Int) (j + 1) (W6.setCell ⟨b8 + 1, 0, none⟩ (.int .i64 ((j : Int) + 1))) ∧ OwnAt w7.heap.size (W6.setCell ⟨b8 + 1, 0, none⟩ (.int .i64 ((j : Int) + 1))) 68 row ((e way).map encS) ∧ BookX [] W6 (W6.setCell ⟨b8 + 1, 0, none⟩ (.int .i64 ((j : Int) + 1))) ∧ ∃ vs, vs.length = n9 ∧ AllU8 vs ∧ OwnAt w7.heap.size (W6.setCell ⟨b8 + 1, 0, none⟩ (.int .i64 ((j : Int) + 1))) 5 (.slice q9 n9 c9) vs from
                ⟨hcn, hrow'.apart rfl hst1 hS1, hst1.book, _, hn9e.symm, allU8_u8s xs1, ho'.apart rfl hst1 hS1⟩)
              clear hrow' hc' ho' hjl hxm hF hs hc2 hoe hn9 hm9 hn9e hcn hst1 hS1 hS' hxs1 hj'
              simp [frame2]
              gi_wp2_with (gi_at_call 40; refine (inW HEQ.out).mono ?_; rintro e w' ⟨rfl, rfl⟩)
              gi_loopw [69] (fun i wr => ∃ t : Nat, t ≤ n9 ∧ i = .int .i64 (t : Int) ∧ Hid (Rnd w bn rb L r e r' e' (.slice (some ⟨g7, 0, none⟩) K n7) K V Ds b8 (.slice (some ⟨g8, o8, none⟩) M c8) (way : Int) (j + 1) wr ∧ OwnAt w7.heap.size wr 68 row ((e way).map encS) ∧ BookX [] W6 wr ∧ ∃ vs, vs.length = n9 ∧ AllU8 vs ∧ OwnAt w7.heap.size wr 5 (.slice q9 n9 c9) vs)) (fun i wr => n9 - (intOf i).toNat)
              case atStart => exact ⟨0, by omega, rfl, HL⟩
              case round =>
                obtain ⟨t, ht, rfl, hi⟩ := hrel
                clear HL
                by_cases hlt2 : t < n9
                · obtain ⟨hp, hro, hbk, vs, hvl, hu, ho⟩ := hi.out
                  obtain ⟨u, hu1⟩ : ∃ u, vs[t]? = some u := ⟨_, List.getElem?_eq_getElem (by omega)⟩
                  obtain ⟨y, rfl⟩ := hu t u hu1
                  obtain ⟨g1, o1, c1, hv1, hh1, hm1, hc1⟩ := ho.at hu1
                  injection hv1 with e1 e2 e3
                  subst e1 e3
                  obtain ⟨x1, x2, x3, x4⟩ := ho.write rfl (show t < vs.length by omega) (.int .u8 ((y + 1) % 256))
                  obtain ⟨hgB, _, cur, hcur⟩ := ho.block (g := g1) rfl
                  have HL := Lib.hid (show Rnd w bn rb L r e r' e' (.slice (some ⟨g7, 0, none⟩) K n7) K V Ds b8 (.slice (some ⟨g8, o8, none⟩) M c8) (way : Int) (j + 1) (wr.setCell ⟨g1, o1 + t, none⟩ (.int .u8 ((y + 1) % 256))) ∧ OwnAt w7.heap.size (wr.setCell ⟨g1, o1 + t, none⟩ (.int .u8 ((y + 1) % 256))) 68 row ((e way).map encS) ∧ BookX [] W6 (wr.setCell ⟨g1, o1 + t, none⟩ (.int .u8 ((y + 1) % 256))) ∧ ∃ vs, vs.length = n9 ∧ AllU8 vs ∧ OwnAt w7.heap.size (wr.setCell ⟨g1, o1 + t, none⟩ (.int .u8 ((y + 1) % 256))) 5 (.slice (some ⟨g1, o1, none⟩) n9 c9) vs from
                    ⟨hp.byte x2 hcur (by have := HZ7.out; omega) (HFAR.out g1 (by have := HZ7.out; omega)), hro.step x2 (fun g hg hm => by
                      obtain ⟨_, _, cur2, hcur2⟩ := hro.block hg
                      simp at hm
                      subst hm
                      rw [hcur] at hcur2
                      cases hcur2), hbk.trans x2.book, _, by rw [List.length_set]; exact hvl, hu.set t _, x1⟩)
                  have hti : (t : Int) < (n9 : Int) := by omega
                  clear hp hro hbk hvl hu ho hu1 x1 x2 x4 hi e2 hm1 hh1 hgB hcur HEQ
                  gi_wp2
                  go_roundw
                  case rel => exact ⟨t + 1, by omega, by go_num, HL⟩
                  case measure => simp [intOf]; omega
                · obtain rfl : t = n9 := by omega
                  have HL := Lib.hid (And.intro hi.out.2.2.1 (And.intro hi.out.1 hi.out.2.1))
                  clear hi hlt2 HEQ
                  gi_wp2_with fail
                  exact ⟨HL.out.1, HL.out.2.1, HL.out.2.2⟩
            case gdone =>
              intro D w9 hD hG hDd
              have hzz := HZ7.out
              rw [vals_len, ← HM.out] at hG
              have HF := Lib.hid (show Pair w.heap.size bn rb L L N0 N0 w9 ∧ Base10 w (.slice (some ⟨g7, 0, none⟩) K n7) K V (D :: Ds) w9 from ⟨⟨r, e, r', e', hG.pa⟩, hG.pl.more (by omega) hDd (fun h => by have := HDF.out D h; omega)⟩)
              have c9 := hG.x9.cell
              have c8 := hG.x8.cell
              clear hG hDd HG hIc
              gi_wp2_with fail
              exact ⟨PlayJ.intro ((way : Int) + 1) L (D :: Ds) (by omega) HF.out (by kernel_rfl) rfl, by simp [playFrameI, intOf]; omega⟩
        · obtain rfl : wy = 3 := by omega
          clear h3 hwy
          gi_wp2_with fail
          exact ⟨PlayI.intro (k + 1) L Ds (by have := HKK.out; omega) HI.out (by kernel_rfl) rfl, by simp [playFrame, intOf]; have := HKK.out; omega⟩
    · obtain rfl : k = K := by omega
      clear hlt hkK
      gi_wp2_with fail
      refine (inW (netWakes_any W)).mono ?_
      rintro e W2 ⟨rfl, hs⟩
      have hB := HI.out.2.same hs
      have c1 := hB.rs.cell
      have f1 := hB.rs.frozen
      have hst : Step [w.heap.size] W2 (W2.setCell ⟨w.heap.size, 0, none⟩ (.bool true)) := Step.setObj hB.rs rfl (by simp) _ _
      have HF := Lib.hid (show Boxed (W2.setCell ⟨w.heap.size, 0, none⟩ (.bool true)) w.heap.size 4 (.bool true) ∧ Step [] w (W2.setCell ⟨w.heap.size, 0, none⟩ (.bool true)) ∧ ∀ D ∈ Ds, w.heap.size ≤ D ∧ (W2.setCell ⟨w.heap.size, 0, none⟩ (.bool true)).heap[D]? = some (.deferred (some [])) from
        ⟨hB.rs.set _, Step.after (Nat.le_refl _) hB.st hst, fun D hD => ⟨by have := (hB.ds D hD).1; omega, obj_step (hB.ds D hD).2 hst (by have := (hB.ds D hD).1; simp; omega)⟩⟩)
      have HND := Lib.hid hB.nd
      clear hs hB hst
      gi_wp2_with fail
      refine leaves_marksC (B := w.heap.size) Ds _ (fun w' hc => results_cell4 rfl _ w' w.heap.size true rfl (boxed_calm HF.out.1 hc).cell) HF.out.2.2 HND.out (fun w' hc => ⟨rfl, HF.out.2.1.calm hc (Nat.le_refl _)⟩)
end Go.Proofs.Ytnomnhlfenhjdaa
