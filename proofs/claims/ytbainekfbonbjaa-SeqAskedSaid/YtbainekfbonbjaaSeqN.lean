import Derived.Test.YtbainekfbonbjaaSeqL
import Derived.OwnWalkIn
import Derived.TacticsInMore
import Derived.LoopNIn
import Derived.LoopIn
import Derived.Deep.QuietTactic
import Derived.BigQuiet
import Derived.Maps.OwnIn
import Derived.Deep.RegionHeld3
namespace Go.Proofs.Ytbainekfbonbjaa
open Go.RowKit Go.Shelf
set_option linter.unusedVariables false
attribute [local go_sem] Oper.semAt_some

/-- first(missing(span, have), m). -/
theorem firstMissing_any (f t m : Nat) (hf : f < 4294967296) (ht : t < 4294967296) (hmm : m ≤ 1000) {sf : Nat} {slb : Array Value} (es : Enters Try.prog sf) {q : Nat → Bool} {Rs : World → Prop} (hq : Asks sf slb q (fun _ => True) Rs) (w w1 : World)
    (hRs : ∀ W', Step [] w W' → Rs W')
    (hw1 : ((((w.alloc (.cells #[.int .u32 (f : Int), .int .u32 (t : Int)] 25)).alloc (.cells #[.func (.func sf) #[] slb] 27)).alloc (.cells #[.int .u32 (f : Int), .int .u32 (t : Int)] 25)).alloc (.cells #[.func (.func 87) #[] #[.pointer (some ⟨w.heap.size + 1 + 1, 0, none⟩)]] 28)).alloc (.cells #[.func (.func 82) #[] #[.pointer (some ⟨w.heap.size + 1, 0, none⟩)]] 27) = w1) :
    Calls Try.prog 26 #[.func (.func 107) #[] #[.pointer (some ⟨w.heap.size + 1 + 1 + 1, 0, none⟩), .pointer (some ⟨w.heap.size + 1 + 1 + 1 + 1, 0, none⟩)], .int .i64 (m : Int)] w1 fun e W' => ∃ v, e = .returned v ∧ OwnU w1.heap.size W' v (((List.range' f (t - f)).filter fun x => !q x).take m) ∧ Step [] w W' := by
  obtain ⟨hz, hs1, h1, hsp, h2, h3⟩ := missing_blocks f t sf slb _ _ hw1
  refine (first_any (missing_gives f t hf ht es hq (fun _ _ _ => trivial) w.heap.size) enters107 m hmm w1 ?_).mono ?_
  · intro W' hs
    exact ⟨obj_step hsp hs (by simp), ⟨boxed_step h2 hs (by simp), boxed_step h3 hs (by simp)⟩, boxed_step h1 hs (by simp), hRs _ (hs1.trans hs)⟩
  · rintro e W' ⟨v, rfl, hv, hs⟩
    exact ⟨v, rfl, hv, hs1.trans hs⟩

theorem enters24 : Enters Try.prog 24 := enters_of Try.func24 (by kernel_rfl) rfl
theorem have24_asks (bt : Nat) (v : Value) (xs : List Nat) : Asks 24 #[.pointer (some ⟨bt, 0, none⟩)] (fun n => decide (n ∈ xs)) (fun _ => True) (fun W => Boxed W bt 26 v ∧ IsN .u32 W v xs) := by
  rintro x W _ ⟨hb, hv⟩
  show Calls Try.prog 24 #[.int .u32 (x : Int), .pointer (some ⟨bt, 0, none⟩)] W _
  have c1 := hb.cell
  have HV := Lib.hid hv
  obtain ⟨p, cap, rfl, _⟩ := hv
  clear hb
  go_enter Try.func24, Try.ntmps24
  go_wp2_with (go_at_call 25; refine (contains_any _ xs x _ HV.out).mono ?_; rintro e w' ⟨rfl, rfl⟩)
  go_ret
  exact ⟨rfl, Step.refl _ _⟩

theorem isN_take {k : IntKind} {W : World} {p : Option Addr} {n c : Nat} {zs : List Nat} (h : IsN k W (.slice p n c) zs) (m : Nat) (hm : m ≤ n) : IsN k W (.slice p m c) (zs.take m) := by
  obtain ⟨p', c', he, h1, h2, hc⟩ := h
  cases he
  refine ⟨p, c, by rw [List.length_take, Nat.min_eq_left hm], by rw [List.length_take]; omega, h2, fun hne => ?_⟩
  obtain ⟨b, off, rfl, hc2⟩ := hc (by rintro rfl; simp at hne)
  refine ⟨b, off, rfl, fun i hi => ?_⟩
  rw [List.length_take] at hi
  rw [hc2 i (by omega)]
  simp [show i < m from by omega]

theorem step_cell {W W' : World} {a : Addr} {v : Value} (hs : Step [] W W') (h : W.cell? a = some v) : W'.cell? a = some v := (hs.below.cell (p := a) (World.block_lt_of_cell? _ _ h)).trans h
theorem step_of_alloc {W W' : World} {o : Obj} (h : W.alloc o = W') : Step [] W W' := by rw [← h]; exact Step.alloc _ _
theorem step_keep {W0 W W' : World} {a b c : Addr} {x y z : Value} (hs : Step [] W W') (h : W.cell? a = some x ∧ W.cell? b = some y ∧ W.cell? c = some z ∧ Step [] W0 W) : W'.cell? a = some x ∧ W'.cell? b = some y ∧ W'.cell? c = some z ∧ Step [] W0 W' :=
  ⟨step_cell hs h.1, step_cell hs h.2.1, step_cell hs h.2.2.1, h.2.2.2.trans hs⟩
theorem keep0 {W : World} {a b c : Addr} {x y z : Value} (h1 : W.cell? a = some x) (h2 : W.cell? b = some y) (h3 : W.cell? c = some z) : W.drew.cell? a = some x ∧ W.drew.cell? b = some y ∧ W.drew.cell? c = some z ∧ Step [] W W.drew :=
  ⟨h1, h2, h3, Step.drewN W 1⟩
theorem spanLen_any (f t : Nat) (w : World) (h1 : f < 4294967296) (h3 : t < 4294967296) :
    Calls Try.prog 21 #[.agg #[.int .u32 (f : Int), .int .u32 (t : Int)]] w fun e w' => e = .returned (.int .i64 ((t - f : Nat) : Int)) ∧ Step [] w w' := by
  by_cases h : t ≤ f
  · have e1 : ((t - f : Nat) : Int) = 0 := by omega
    have HE := Lib.hid e1
    clear e1
    go_enter Try.func21, Try.ntmps21
    go_wp2
    all_goals
      go_ret
      refine ⟨?_, Step.alloc _ _⟩
      first | rfl | (simp; omega) | (rw [HE.out]; first | rfl | (simp; omega))
  · have e1 : ((t - f : Nat) : Int) = (t : Int) - (f : Int) := by omega
    have HE := Lib.hid e1
    clear e1
    go_enter Try.func21, Try.ntmps21
    go_wp2
    all_goals
      go_ret
      refine ⟨?_, Step.alloc _ _⟩
      first | rfl | (simp; omega) | (rw [HE.out]; first | rfl | (simp; omega))
theorem spanHas_any (f t n : Int) (b : Bool) (hb : (decide (f ≤ n) && decide (n < t)) = b) (w : World) :
    Calls Try.prog 22 #[.agg #[.int .u32 f, .int .u32 t], .int .u32 n] w fun e w' => e = .returned (.bool b) ∧ Step [] w w' := by
  subst hb
  by_cases h1 : f ≤ n
  · go_enter Try.func22, Try.ntmps22
    go_wp2
    go_ret
    exact ⟨by simp [h1], Step.alloc _ _⟩
  · go_enter Try.func22, Try.ntmps22
    go_wp2
    go_ret
    exact ⟨by simp; omega, Step.alloc _ _⟩
theorem firstTold40 (ack mask : Nat) (ha : ack < 4294967296) (hm : mask < 4294967296) (w w1 : World)
    (hw1 : ((((w.alloc (.cells #[.int .u32 (ack : Int)] 22)).alloc (.cells #[.int .u32 (mask : Int)] 22)).alloc (.cells #[.int .u32 (ack : Int)] 22)).alloc (.cells #[.func (.func 108) #[] #[.pointer (some ⟨w.heap.size + 1 + 1, 0, none⟩)]] 28)).alloc (.cells #[.func (.func 89) #[] #[.pointer (some ⟨w.heap.size + 1, 0, none⟩), .pointer (some ⟨w.heap.size, 0, none⟩)]] 27) = w1) :
    Calls Try.prog 26 #[.func (.func 107) #[] #[.pointer (some ⟨w.heap.size + 1 + 1 + 1, 0, none⟩), .pointer (some ⟨w.heap.size + 1 + 1 + 1 + 1, 0, none⟩)], .int .i64 40] w1 fun e W' => ∃ ao k cap, e = .returned (.slice ao k cap) ∧ IsN .u32 W' (.slice ao k cap) (toldL ack mask) ∧ Step [] w1 W' := by
  obtain ⟨hz, hs1, b0, b1, b2, b3, b4⟩ := told_blocks _ _ _ _ hw1
  refine (first_any (told_gives ack mask w.heap.size ha hm) enters107 40 (by omega) w1 ?_).mono ?_
  · intro W' hs
    exact ⟨boxed_step b2 hs (by simp), ⟨boxed_step b3 hs (by simp), boxed_step b4 hs (by simp)⟩, boxed_step b1 hs (by simp), boxed_step b0 hs (by simp)⟩
  · rintro e W' ⟨v, rfl, hv, hs⟩
    rw [List.take_of_length_le (by have := toldL_len ack mask; omega)] at hv
    obtain ⟨ao, cap, rfl⟩ := ownU_slice hv
    exact ⟨ao, _, cap, rfl, hv.isN, hs⟩
theorem refTold' (ack mask : Nat) (w : World) (ha : ack < 4294967296) (hm : mask < 4294967296) :
    Calls Try.prog 30 #[.int .u32 (ack : Int), .int .u32 (mask : Int)] w fun e W' => ∃ ao k cap, e = .returned (.slice ao k cap) ∧ IsN .u32 W' (.slice ao k cap) (toldL ack mask) ∧ Step [] w W' := by
  refine (refTold_any ack mask w ha hm).mono ?_
  rintro e W' ⟨v, rfl, hv, hs⟩
  obtain ⟨ao, cap, rfl⟩ := ownU_slice hv
  exact ⟨ao, _, cap, rfl, hv.isN, hs⟩
theorem mask24 (ack : Nat) (ha : ack < 4294967296) (bt : Nat) (v : Value) (ys : List Nat) (w : World) (hRs : ∀ W', Step [] w W' → Boxed W' bt 26 v ∧ IsN .u32 W' v ys) :
    Calls Try.prog 31 #[.int .u32 (ack : Int), .func (.func 24) #[] #[.pointer (some ⟨bt, 0, none⟩)]] w fun e W' => e = .returned (.int .u32 (maskOf ack (fun n => decide (n ∈ ys)) : Int)) ∧ Step [] w W' :=
  mask_any ack ha enters24 _ (fun x W _ h => have24_asks bt v ys x W trivial h) w hRs
theorem refMask' (ack : Nat) (v : Value) (hs : List Nat) (w : World) (ha : ack < 4294967296) (h1 : IsN .u32 w v hs) :
    Calls Try.prog 32 #[.int .u32 (ack : Int), v] w fun e w' => e = .returned (.int .u32 (maskOf ack (fun n => decide (n ∈ hs)) : Int)) ∧ Step [] w w' := by
  refine (refMask_any ack v hs w ha h1).mono ?_
  rintro e w' ⟨rfl, rfl⟩
  exact ⟨rfl, Step.refl _ _⟩
theorem spanLenL (F T : Int) (f t : Nat) (r : Int) (hF : F = f) (hT : T = t) (hr : ((t - f : Nat) : Int) = r) (h1 : f < 4294967296) (h3 : t < 4294967296) (w : World) :
    Calls Try.prog 21 #[.agg #[.int .u32 F, .int .u32 T]] w fun e w' => e = .returned (.int .i64 r) ∧ Step [] w w' := by
  subst hF; subst hT; subst hr
  exact spanLen_any f t w h1 h3

theorem missL_eq (f t : Nat) (ys : List Nat) : ((List.range' f (t - f)).filter fun x => !decide (x ∈ ys)) = missL f t ys := by
  unfold missL; congr 1; funext x; simp
theorem missL_nil (f t : Nat) : missL f t [] = List.range' f (t - f) := by
  unfold missL; rw [List.filter_eq_self]; simp
theorem hRs_of {w3 W : World} {a b c : Addr} {x y z : Value} {bt : Nat} {v : Value} {ys : List Nat} (hS : W.cell? a = some x ∧ W.cell? b = some y ∧ W.cell? c = some z ∧ Step [] w3 W) (hb : Boxed w3 bt 26 v) (hv : IsN .u32 w3 v ys) : ∀ W', Step [] W W' → Boxed W' bt 26 v ∧ IsN .u32 W' v ys :=
  fun W' h => ⟨boxed_step (boxed_step hb hS.2.2.2 (by simp)) h (by simp), isN_step (S := []) (isN_step (S := []) hv hS.2.2.2) h⟩
theorem isN_of {w3 W : World} {a b c : Addr} {x y z : Value} {v : Value} {ys : List Nat} (hS : W.cell? a = some x ∧ W.cell? b = some y ∧ W.cell? c = some z ∧ Step [] w3 W) (hv : IsN .u32 w3 v ys) : IsN .u32 W v ys := isN_step (S := []) hv hS.2.2.2
/-- first(missing(span, have), 50), as the document's list. -/
theorem firstMissing50 (f t : Nat) (hf : f < 4294967296) (ht : t < 4294967296) (bt : Nat) (v : Value) (ys : List Nat) (w w1 : World)
    (hRs : ∀ W', Step [] w1 W' → Boxed W' bt 26 v ∧ IsN .u32 W' v ys)
    (hw1 : ((((w.alloc (.cells #[.int .u32 (f : Int), .int .u32 (t : Int)] 25)).alloc (.cells #[.func (.func 24) #[] #[.pointer (some ⟨bt, 0, none⟩)]] 27)).alloc (.cells #[.int .u32 (f : Int), .int .u32 (t : Int)] 25)).alloc (.cells #[.func (.func 87) #[] #[.pointer (some ⟨w.heap.size + 1 + 1, 0, none⟩)]] 28)).alloc (.cells #[.func (.func 82) #[] #[.pointer (some ⟨w.heap.size + 1, 0, none⟩)]] 27) = w1) :
    Calls Try.prog 26 #[.func (.func 107) #[] #[.pointer (some ⟨w.heap.size + 1 + 1 + 1, 0, none⟩), .pointer (some ⟨w.heap.size + 1 + 1 + 1 + 1, 0, none⟩)], .int .i64 50] w1 fun e W' => ∃ ao k cap, e = .returned (.slice ao k cap) ∧ IsN .u32 W' (.slice ao k cap) ((missL f t ys).take 50) ∧ Step [] w1 W' := by
  obtain ⟨hz, hs1, h1, hsp, h2, h3⟩ := missing_blocks f t _ _ _ _ hw1
  refine (first_any (missing_gives f t hf ht enters24 (have24_asks bt v ys) (fun _ _ _ => trivial) w.heap.size) enters107 50 (by omega) w1 ?_).mono ?_
  · intro W' hs
    exact ⟨obj_step hsp hs (by simp), ⟨boxed_step h2 hs (by simp), boxed_step h3 hs (by simp)⟩, boxed_step h1 hs (by simp), hRs _ hs⟩
  · rintro e W' ⟨v, rfl, hv, hs⟩
    rw [missL_eq] at hv
    obtain ⟨ao, cap, rfl⟩ := ownU_slice hv
    exact ⟨ao, _, cap, rfl, hv.isN, hs⟩
theorem firstAll50 (f t : Nat) (hf : f < 4294967296) (ht : t < 4294967296) (w w1 : World) (hw1 : w.alloc (.cells #[.int .u32 (f : Int), .int .u32 (t : Int)] 25) = w1) :
    Calls Try.prog 26 #[.func (.func 87) #[] #[.pointer (some ⟨w.heap.size, 0, none⟩)], .int .i64 50] w1 fun e W' => ∃ ao k cap, e = .returned (.slice ao k cap) ∧ IsN .u32 W' (.slice ao k cap) ((missL f t []).take 50) ∧ Step [] w1 W' := by
  have hb : w1.heap[w.heap.size]? = some (spanObj f t) := by rw [← hw1, heap_alloc_get, if_pos rfl]; rfl
  refine (first_any (all_gives f t w.heap.size ht hf) enters87 50 (by omega) w1 ?_).mono ?_
  · intro W' hs
    exact obj_step hb hs (by simp)
  · rintro e W' ⟨v, rfl, hv, hs⟩
    rw [← missL_nil] at hv
    obtain ⟨ao, cap, rfl⟩ := ownU_slice hv
    exact ⟨ao, _, cap, rfl, hv.isN, hs⟩
theorem refMissing50 (f t : Nat) (v : Value) (hs : List Nat) (w : World) (hf : f < 4294967296) (ht : t < 4294967296) (h1 : IsN .u32 w v hs) :
    Calls Try.prog 27 #[.int .u32 (f : Int), .int .u32 (t : Int), v, .int .i64 50] w fun e W' => ∃ ao k cap, e = .returned (.slice ao k cap) ∧ IsN .u32 W' (.slice ao k cap) ((missL f t hs).take 50) ∧ Step [] w W' := by
  refine (refMissing_any f t 50 v hs w hf ht (by omega) h1).mono ?_
  rintro e W' ⟨v, rfl, hv, hs⟩
  obtain ⟨ao, cap, rfl⟩ := ownU_slice hv
  exact ⟨ao, _, cap, rfl, hv.isN, hs⟩
theorem equal_same (v v2 : Value) (xs : List Nat) (W : World) (h : IsN .u32 W v xs) (h2 : IsN .u32 W v2 xs) :
    Calls Try.prog 20 #[v, v2] W fun e w' => e = .returned (.bool true) ∧ Step [] W w' := by
  refine (equal_any _ _ xs xs _ h h2).mono ?_
  rintro e w' ⟨rfl, n, rfl⟩
  exact ⟨by simp, Step.drewN _ _⟩

end Go.Proofs.Ytbainekfbonbjaa
