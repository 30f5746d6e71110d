/- seq.Mask, slices.Contains: contracts. -/
import Derived.Test.YtbainekfbonbjaaSeqE
import Derived.Test.YtbainekfbonbjaaBaseB
import Derived.OwnWalkIn
import Derived.TacticsInMore
import Derived.LoopNIn
import Derived.LoopIn
import Derived.Deep.QuietTactic
import Derived.BigQuiet
import Derived.Maps.OwnIn
namespace Go.Proofs.Ytbainekfbonbjaa
open Go.RowKit Go.Shelf
set_option linter.unusedVariables false
attribute [local go_sem] Oper.semAt_some

theorem behind_any (a : Int) (w : World) : Calls Try.prog 88 #[.int .u32 a] w fun e w' => e = .returned (.func (.func 108) #[] #[.pointer (some ⟨w.heap.size, 0, none⟩)]) ∧ w.alloc (.cells #[.int .u32 a] 22) = w' := by
  go_enter Try.func88, Try.ntmps88
  go_wp2
  go_ret
  exact ⟨rfl, rfl⟩

theorem those_any (g s : FuncId) (lb slb : Array Value) (w : World) : Calls Try.prog 81 #[.func (.func g) #[] lb, .func (.func s) #[] slb] w fun e w' =>
    e = .returned (.func (.func 107) #[] #[.pointer (some ⟨w.heap.size, 0, none⟩), .pointer (some ⟨w.heap.size + 1, 0, none⟩)]) ∧ (w.alloc (.cells #[.func (.func g) #[] lb] 28)).alloc (.cells #[.func (.func s) #[] slb] 27) = w' := by
  go_enter Try.func81, Try.ntmps81
  go_wp2
  go_ret
  exact ⟨rfl, rfl⟩

theorem all_any (f t : Int) (w : World) : Calls Try.prog 28 #[.agg #[.int .u32 f, .int .u32 t]] w fun e w' => e = .returned (.func (.func 87) #[] #[.pointer (some ⟨w.heap.size, 0, none⟩)]) ∧ w.alloc (.cells #[.int .u32 f, .int .u32 t] 25) = w' := by
  go_enter Try.func28, Try.ntmps28
  go_wp2
  go_ret
  exact ⟨rfl, rfl⟩

theorem enters107 : Enters Try.prog 107 := enters_of Try.func107 (by kernel_rfl) rfl
theorem enters108 : Enters Try.prog 108 := enters_of Try.func108 (by kernel_rfl) rfl
theorem enters87 : Enters Try.prog 87 := enters_of Try.func87 (by kernel_rfl) rfl
theorem enters82 : Enters Try.prog 82 := enters_of Try.func82 (by kernel_rfl) rfl
theorem enters89 : Enters Try.prog 89 := enters_of Try.func89 (by kernel_rfl) rfl

/-- The numbers that a mask of ack can tell of. -/
def Behind (ack x : Nat) : Prop := ack < x ∧ x ≤ ack + 32 ∧ x < 4294967296
theorem behind_mem {ack x : Nat} (ha : ack < 4294967296) (h : x ∈ List.range' (ack + 1) (behindLen ack)) : Behind ack x := by
  have := range'_mem h
  have := behind_le ack
  have := behind_max ack ha
  exact ⟨by omega, by omega, by omega⟩

set_option maxRecDepth 100000 in
set_option maxHeartbeats 2000000 in
theorem mask_any (ack : Nat) (ha : ack < 4294967296) {sf : Nat} {slb : Array Value} (es : Enters Try.prog sf) (q : Nat → Bool) {Rs : World → Prop} (hq : Asks sf slb q (Behind ack) Rs) (w : World) (hRs : ∀ W', Step [] w W' → Rs W') :
    Calls Try.prog 31 #[.int .u32 (ack : Int), .func (.func sf) #[] slb] w fun e W' => e = .returned (.int .u32 (maskOf ack q : Int)) ∧ Step [] w W' := by
  refine (callsIn_wide (n := 0)).1 (callsIn_of_wp_marks Try.func31 rfl trivial ?_ rfl)
  simp only [Try.ntmps31, List.size_toArray, List.length_cons, List.length_nil, Nat.reduceAdd, Nat.reduceSub, Array.replicate_succ, Array.replicate_zero, List.push_toArray, List.append_toArray, List.nil_append, List.cons_append]
  gi_wp2_with (first | (gi_at_call 88; refine (inW (behind_any _ _)).mono ?_; rintro e w' ⟨rfl, rfl⟩) | (gi_at_call 81; refine (inW (those_any _ _ _ _ _)).mono ?_; rintro e w' ⟨rfl, rfl⟩))
  generalize hw1 : ((((w.alloc (.cells #[.int .u32 (ack : Int)] 22)).alloc (.cells #[.int .u32 0] 22)).alloc (.cells #[.int .u32 (ack : Int)] 22)).alloc (.cells #[.func (.func 108) #[] #[.pointer (some ⟨w.heap.size + 1 + 1, 0, none⟩)]] 28)).alloc (.cells #[.func (.func sf) #[] slb] 27) = w1
  have hz : w1.heap.size = w.heap.size + 5 := by rw [← hw1]; simp
  have s0 : Step [] w w1 := by rw [← hw1]; exact ((((Step.alloc _ _).trans (Step.alloc _ _)).trans (Step.alloc _ _)).trans (Step.alloc _ _)).trans (Step.alloc _ _)
  have b0 : Boxed w1 w.heap.size 22 (.int .u32 (ack : Int)) := by rw [← hw1]; simp only [Boxed, heap_alloc_get, World.size_alloc]; repeat first | rfl | rw [if_pos (by omega)] | rw [if_neg (by omega)] | rw [if_pos trivial]
  have b1 : Boxed w1 (w.heap.size + 1) 22 (.int .u32 0) := by rw [← hw1]; simp only [Boxed, heap_alloc_get, World.size_alloc]; repeat first | rfl | rw [if_pos (by omega)] | rw [if_neg (by omega)] | rw [if_pos trivial]
  have b2 : Boxed w1 (w.heap.size + 1 + 1) 22 (.int .u32 (ack : Int)) := by rw [← hw1]; simp only [Boxed, heap_alloc_get, World.size_alloc]; repeat first | rfl | rw [if_pos (by omega)] | rw [if_neg (by omega)] | rw [if_pos trivial]
  have b3 : Boxed w1 (w.heap.size + 1 + 1 + 1) 28 (.func (.func 108) #[] #[.pointer (some ⟨w.heap.size + 1 + 1, 0, none⟩)]) := by rw [← hw1]; simp only [Boxed, heap_alloc_get, World.size_alloc]; repeat first | rfl | rw [if_pos (by omega)] | rw [if_neg (by omega)] | rw [if_pos trivial]
  have b4 : Boxed w1 (w.heap.size + 1 + 1 + 1 + 1) 27 (.func (.func sf) #[] slb) := by rw [← hw1]; simp only [Boxed, heap_alloc_get, World.size_alloc]; repeat first | rfl | rw [if_pos (by omega)] | rw [if_neg (by omega)] | rw [if_pos trivial]
  clear hw1
  have hg := those_gives (fun x h => behind_mem ha h) (behind_gives ack (w.heap.size + 1 + 1) ha) enters108 es q hq (w.heap.size + 1 + 1 + 1) (w.heap.size + 1 + 1 + 1 + 1)
  refine range_outer1 (v := fun x : Nat => .int .u32 (x : Int)) [] rfl enters107 hg (by simp) rfl rfl
    (fun pre W => Boxed W (w.heap.size + 1) 22 (.int .u32 (bitsSum ack pre : Int)) ∧ Step [w.heap.size + 1] w1 W)
    (fun _ _ _ => False) ?hI (fun _ => abide_false _) ?hRd ?h0 ?body ?done ?stop
  case hI => exact fun s A B h hc => ⟨boxed_calm h.1 hc, h.2.calm hc (Nat.le_refl _)⟩
  case hRd =>
    rintro pre W ⟨_, hs⟩
    exact ⟨boxed_step b2 hs (fun h => by simp at h <;> omega), ⟨boxed_step b3 hs (fun h => by simp at h <;> omega), boxed_step b4 hs (fun h => by simp at h <;> omega)⟩, hRs _ (s0.trans' hs (fun _ h _ => h) (fun i hi hl => by simp at hi; omega))⟩
  case h0 => exact ⟨b1, Step.refl _ _⟩
  case body =>
    rintro l pre x W hl _ ⟨hb, hs⟩ hadm
    obtain ⟨h1, h2, h3, h4⟩ := next_behind ha hadm
    have c0 := (boxed_step b0 hs (by simp)).cell
    have c1 := hb.cell
    have f1 := hb.frozen
    simp [frame1]
    have he : bits BinOp.or IntKind.u32 (bitsSum ack pre : Int) (2 ^ (x - ack - 1) % 4294967296) = (bitsSum ack (pre ++ [x]) : Int) := by
      have hp : 2 ^ (x - ack - 1) < 4294967296 := Nat.lt_of_lt_of_le (Nat.pow_lt_pow_right (by omega) (show x - ack - 1 < 32 by omega)) (by omega)
      have e1 : ((2 : Int) ^ (x - ack - 1) % 4294967296) = ((2 ^ (x - ack - 1) : Nat) : Int) := by
        have : ((2 : Int) ^ (x - ack - 1)) = ((2 ^ (x - ack - 1) : Nat) : Int) := by push_cast; rfl
        rw [this]; omega
      rw [e1, u32_or_nat _ _ (by omega) hp, or_bit h4, bitsSum_snoc]
    have HE := Lib.hid he
    clear he hg hq hRs
    gi_wp2
    rw [HE.out]
    refine ⟨(Step.setCell (S := [w.heap.size + 1]) _ _ _ (.inl (by simp)) (fun o ho => by rw [show W.heap[w.heap.size + 1]? = _ from hb] at ho; cases ho; rfl)).book, hb.set _, hs.trans (Step.setCell _ _ _ (.inl (by simp)) (fun o ho => by rw [show W.heap[w.heap.size + 1]? = _ from hb] at ho; cases ho; rfl))⟩
  case done =>
    rintro D xs W hD rfl ⟨hb, hs⟩ hd
    have c1 := hb.cell
    gi_wp2
    refine leaves_marks (B := w.heap.size) (results_tmp rfl _ _) [D] _ (by simp; exact ⟨by omega, hd⟩) (by simp) ?_
    intro w' hc
    exact ⟨rfl, (s0.trans' hs (fun _ h _ => h) (fun i hi hl => by simp at hi; omega)).calm hc (Nat.le_refl _)⟩
  case stop =>
    rintro D c pre W hD h hd
    exact h.elim

set_option maxRecDepth 100000 in
set_option maxHeartbeats 1000000 in
theorem index_any (v : Value) (xs : List Nat) (n : Nat) (w : World) (h1 : IsN .u32 w v xs) :
    Calls Try.prog 85 #[v, .int .u32 (n : Int)] w fun e w' => (∃ k : Int, e = .returned (.int .i64 k) ∧ decide (0 ≤ k) = decide (n ∈ xs)) ∧ w = w' := by
  obtain ⟨p, c1, rfl, hl1, hm1, hc1⟩ := h1
  unfold maxLen at hm1
  have HC1 := Lib.hid hc1
  clear hc1
  go_enter Try.func85, Try.ntmps85
  go_wp2
  go_loop [5, 8] (fun j i => ∃ k : Nat, k ≤ xs.length ∧ i = .int .i64 k ∧ Hid (n ∉ xs.take k)) (fun j i => xs.length - (intOf i).toNat)
  case atStart => exact ⟨0, by omega, rfl, by simp [Hid]⟩
  case round =>
    obtain ⟨k, hk, rfl, hj⟩ := hrel
    by_cases hlt : k < xs.length
    · obtain ⟨b1, o1, rfl, hc1⟩ := HC1.out (by intro h; subst h; simp at hlt)
      have e1 := hc1 k hlt
      clear hc1
      have hsn : xs.take (k + 1) = xs.take k ++ [xs[k]?.getD 0] := by rw [List.take_succ_eq_append_getElem hlt]; simp [List.getElem?_eq_getElem hlt]
      have hmem : xs[k]?.getD 0 ∈ xs := by simp [List.getElem?_eq_getElem hlt]
      generalize xs[k]?.getD 0 = y at *
      have HSN := Lib.hid hsn
      have HM := Lib.hid hmem
      clear hsn hmem
      by_cases heq : n = y
      · subst heq
        have hb : ((n : Int) == (n : Int)) = true := by simp
        go_wp2
        go_ret
        exact ⟨⟨_, rfl, by simp [HM.out]⟩, rfl⟩
      · have hb : ((n : Int) == (y : Int)) = false := by simp; omega
        go_wp2
        go_round
        case rel => exact ⟨k + 1, by omega, by go_num, by rw [HSN.out]; simp [Hid]; exact ⟨hj.out, heq⟩⟩
        case measure => simp [intOf]; omega
    · have hc : decide (n ∈ xs) = false := by
        have := hj.out; rw [List.take_of_length_le (by omega)] at this; simpa using this
      have HC := Lib.hid hc
      clear hc
      go_wp2
      go_ret
      exact ⟨⟨_, rfl, by have := of_decide_eq_false HC.out; simp [this]⟩, rfl⟩

set_option maxRecDepth 100000 in
set_option maxHeartbeats 1000000 in
theorem contains_any (v : Value) (xs : List Nat) (n : Nat) (w : World) (h1 : IsN .u32 w v xs) :
    Calls Try.prog 25 #[v, .int .u32 (n : Int)] w fun e w' => e = .returned (.bool (decide (n ∈ xs))) ∧ w = w' := by
  go_enter Try.func25, Try.ntmps25
  go_wp2_with (go_at_call 85; refine (index_any _ xs n _ h1).mono ?_; rintro e w' ⟨⟨k, rfl, hk⟩, rfl⟩; have HK := Lib.hid hk; clear hk)
  go_ret
  exact ⟨by rw [← HK.out]; rfl, rfl⟩

end Go.Proofs.Ytbainekfbonbjaa
