/- seq.Told, slices.IsSorted: contracts. -/
import Derived.Test.YtbainekfbonbjaaSeqG
import Derived.OwnWalkIn
import Derived.TacticsInMore
import Derived.LoopNIn
import Derived.LoopIn
import Derived.Deep.QuietTactic
import Derived.BigQuiet
import Derived.Maps.OwnIn
namespace Go.Proofs.Ytbainekfbonbjaa
open Go.RowKit Go.Shelf
set_option linter.unusedVariables false
attribute [local go_sem] Oper.semAt_some

/-- What seq.Told hands back, and the blocks that it lays. -/
theorem told_any (a m : Int) (w : World) : Calls Try.prog 29 #[.int .u32 a, .int .u32 m] w fun e w' =>
    e = .returned (.func (.func 107) #[] #[.pointer (some ⟨w.heap.size + 1 + 1 + 1, 0, none⟩), .pointer (some ⟨w.heap.size + 1 + 1 + 1 + 1, 0, none⟩)]) ∧
    ((((w.alloc (.cells #[.int .u32 a] 22)).alloc (.cells #[.int .u32 m] 22)).alloc (.cells #[.int .u32 a] 22)).alloc (.cells #[.func (.func 108) #[] #[.pointer (some ⟨w.heap.size + 1 + 1, 0, none⟩)]] 28)).alloc (.cells #[.func (.func 89) #[] #[.pointer (some ⟨w.heap.size + 1, 0, none⟩), .pointer (some ⟨w.heap.size, 0, none⟩)]] 27) = w' := by
  go_enter Try.func29, Try.ntmps29
  go_wp2_with (first | (go_at_call 88; refine (behind_any _ _).mono ?_; rintro e w' ⟨rfl, rfl⟩) | (go_at_call 81; refine (those_any _ _ _ _ _).mono ?_; rintro e w' ⟨rfl, rfl⟩))
  go_ret
  exact ⟨rfl, rfl⟩

theorem told_blocks (a m : Int) (w w1 : World)
    (hw1 : ((((w.alloc (.cells #[.int .u32 a] 22)).alloc (.cells #[.int .u32 m] 22)).alloc (.cells #[.int .u32 a] 22)).alloc (.cells #[.func (.func 108) #[] #[.pointer (some ⟨w.heap.size + 1 + 1, 0, none⟩)]] 28)).alloc (.cells #[.func (.func 89) #[] #[.pointer (some ⟨w.heap.size + 1, 0, none⟩), .pointer (some ⟨w.heap.size, 0, none⟩)]] 27) = w1) :
    w1.heap.size = w.heap.size + 5 ∧ Step [] w w1 ∧ Boxed w1 w.heap.size 22 (.int .u32 a) ∧ Boxed w1 (w.heap.size + 1) 22 (.int .u32 m) ∧ Boxed w1 (w.heap.size + 1 + 1) 22 (.int .u32 a) ∧
    Boxed w1 (w.heap.size + 1 + 1 + 1) 28 (.func (.func 108) #[] #[.pointer (some ⟨w.heap.size + 1 + 1, 0, none⟩)]) ∧ Boxed w1 (w.heap.size + 1 + 1 + 1 + 1) 27 (.func (.func 89) #[] #[.pointer (some ⟨w.heap.size + 1, 0, none⟩), .pointer (some ⟨w.heap.size, 0, none⟩)]) := by
  refine ⟨by rw [← hw1]; simp, by rw [← hw1]; exact ((((Step.alloc _ _).trans (Step.alloc _ _)).trans (Step.alloc _ _)).trans (Step.alloc _ _)).trans (Step.alloc _ _), ?_, ?_, ?_, ?_, ?_⟩ <;>
  · rw [← hw1]; simp only [Boxed, heap_alloc_get, World.size_alloc]; repeat first | rfl | rw [if_pos (by omega)] | rw [if_neg (by omega)] | rw [if_pos trivial]

theorem told1_asks (ack mask bm ba : Nat) (ha : ack < 4294967296) (hm : mask < 4294967296) :
    Asks 89 #[.pointer (some ⟨bm, 0, none⟩), .pointer (some ⟨ba, 0, none⟩)] (tells ack mask) (Behind ack) (fun W => Boxed W bm 22 (.int .u32 (mask : Int)) ∧ Boxed W ba 22 (.int .u32 (ack : Int))) := by
  rintro x W ⟨h1, h2, h3⟩ ⟨hb1, hb2⟩
  exact (told1_any ack mask x bm ba W ha hm h1 h2 h3 hb1 hb2).mono (fun e w' ⟨he, hw⟩ => ⟨he, hw ▸ Step.refl _ _⟩)

/-- seq.Told AS AN ITERATOR. -/
theorem told_gives (ack mask n : Nat) (ha : ack < 4294967296) (hm : mask < 4294967296) :
    Gives Try.prog 107 #[.pointer (some ⟨n + 1 + 1 + 1, 0, none⟩), .pointer (some ⟨n + 1 + 1 + 1 + 1, 0, none⟩)] encU (fun pre x => pre ++ [x] <+: toldL ack mask) (fun ys => ys = toldL ack mask)
      (fun W => Boxed W (n + 1 + 1) 22 (.int .u32 (ack : Int)) ∧ (Boxed W (n + 1 + 1 + 1) 28 (.func (.func 108) #[] #[.pointer (some ⟨n + 1 + 1, 0, none⟩)]) ∧ Boxed W (n + 1 + 1 + 1 + 1) 27 (.func (.func 89) #[] #[.pointer (some ⟨n + 1, 0, none⟩), .pointer (some ⟨n, 0, none⟩)])) ∧ (Boxed W (n + 1) 22 (.int .u32 (mask : Int)) ∧ Boxed W n 22 (.int .u32 (ack : Int)))) :=
  those_gives (fun x h => behind_mem ha h) (behind_gives ack (n + 1 + 1) ha) enters108 enters89 (tells ack mask) (told1_asks ack mask (n + 1) n ha hm) (n + 1 + 1 + 1) (n + 1 + 1 + 1 + 1)

theorem toldL_len (ack mask : Nat) : (toldL ack mask).length ≤ 32 := by
  have := toldTo_len ack mask 32; rwa [toldTo_all] at this

/-- first(seq.Told(ack, mask), m), m at least 32: all that is told. -/
theorem firstTold_any (ack mask m : Nat) (ha : ack < 4294967296) (hm : mask < 4294967296) (h32 : 32 ≤ m) (hmm : m ≤ 1000) (w w1 : World)
    (hw1 : ((((w.alloc (.cells #[.int .u32 (ack : Int)] 22)).alloc (.cells #[.int .u32 (mask : Int)] 22)).alloc (.cells #[.int .u32 (ack : Int)] 22)).alloc (.cells #[.func (.func 108) #[] #[.pointer (some ⟨w.heap.size + 1 + 1, 0, none⟩)]] 28)).alloc (.cells #[.func (.func 89) #[] #[.pointer (some ⟨w.heap.size + 1, 0, none⟩), .pointer (some ⟨w.heap.size, 0, none⟩)]] 27) = w1) :
    Calls Try.prog 26 #[.func (.func 107) #[] #[.pointer (some ⟨w.heap.size + 1 + 1 + 1, 0, none⟩), .pointer (some ⟨w.heap.size + 1 + 1 + 1 + 1, 0, none⟩)], .int .i64 (m : Int)] w1 fun e W' => ∃ v, e = .returned v ∧ OwnU w.heap.size W' v (toldL ack mask) ∧ Step [] w W' := by
  obtain ⟨hz, hs1, b0, b1, b2, b3, b4⟩ := told_blocks _ _ _ _ hw1
  refine (first_any (told_gives ack mask w.heap.size ha hm) enters107 m hmm w1 ?_).mono ?_
  · intro W' hs
    exact ⟨boxed_step b2 hs (by simp), ⟨boxed_step b3 hs (by simp), boxed_step b4 hs (by simp)⟩, boxed_step b1 hs (by simp), boxed_step b0 hs (by simp)⟩
  · rintro e W' ⟨v, rfl, hv, hs⟩
    rw [List.take_of_length_le (by have := toldL_len ack mask; omega)] at hv
    refine ⟨v, rfl, ?_, hs1.trans hs⟩
    obtain ⟨h1, h2⟩ := hv
    refine ⟨h1, h2.imp id ?_⟩
    rintro ⟨g, cap, cur, e, hb, rest⟩
    exact ⟨g, cap, cur, e, by omega, rest⟩

/-! ### cmp.Less, slices.IsSorted -/
theorem isNaN_any (a : Nat) (w : World) : Calls Try.prog 109 #[.int .u32 (a : Int)] w fun e w' => e = .returned (.bool false) ∧ w = w' := by
  have h : ((a : Int) != (a : Int)) = false := by simp
  go_enter Try.func109, Try.ntmps109
  go_wp2
  go_ret
  exact ⟨rfl, rfl⟩

theorem less_any (a b : Nat) (w : World) : Calls Try.prog 90 #[.int .u32 (a : Int), .int .u32 (b : Int)] w fun e w' => e = .returned (.bool (decide (a < b))) ∧ w = w' := by
  by_cases h : a < b
  all_goals
    go_enter Try.func90, Try.ntmps90
    go_wp2_with (go_at_call 109; refine (isNaN_any _ _).mono ?_; rintro e w' ⟨rfl, rfl⟩)
    go_ret
    exact ⟨by simp <;> omega, rfl⟩

theorem less_q (a b : Nat) (w : World) : Calls Try.prog 90 #[.int .u32 (a : Int), .int .u32 (b : Int)] w fun e w' => e = .returned (.bool (decide (a < b))) ∧ w' = w :=
  (less_any a b w).mono fun _ _ h => ⟨h.1, h.2.symm⟩

set_option maxRecDepth 100000 in
set_option maxHeartbeats 1000000 in
theorem isSorted_any (v : Value) (xs : List Nat) (w : World) (h1 : IsN .u32 w v xs) (hs : ∀ i, 1 ≤ i → i < xs.length → xs[i - 1]?.getD 0 ≤ xs[i]?.getD 0) :
    Calls Try.prog 34 #[v] w fun e w' => e = .returned (.bool true) ∧ ∃ n, w.drewN n = w' := by
  obtain ⟨p, c1, rfl, hl1, hm1, hc1⟩ := h1
  unfold maxLen at hm1
  have HC1 := Lib.hid hc1
  have HS := Lib.hid hs
  clear hc1 hs
  go_enter Try.func34, Try.ntmps34
  go_wp2
  go_loopw [3] (fun i wr => ∃ (k : Int), -1 ≤ k ∧ k < xs.length ∧ i = .int .i64 k ∧ Hid (∃ n, w.drewN n = wr)) (fun i wr => (intOf i).toNat)
  case atStart => exact ⟨(xs.length : Int) - 1, by omega, by omega, rfl, 0, rfl⟩
  case round =>
    obtain ⟨k, hk0, hk, rfl, hw⟩ := hrel
    by_cases hlt : 0 < k
    · obtain ⟨j, rfl⟩ : ∃ j : Nat, k = (j : Int) + 1 := ⟨(k - 1).toNat, by omega⟩
      have hj : j + 1 < xs.length := by omega
      obtain ⟨b1, o1, rfl, hc1⟩ := HC1.out (by intro h; subst h; simp at hj)
      have e1 : wr.cell? ⟨b1, o1 + (j + 1), none⟩ = some (.int .u32 ((xs[j + 1]?.getD 0 : Nat) : Int)) := by obtain ⟨n, rfl⟩ := hw.out; exact hc1 (j + 1) hj
      have e2 : wr.cell? ⟨b1, o1 + j, none⟩ = some (.int .u32 ((xs[j]?.getD 0 : Nat) : Int)) := by obtain ⟨n, rfl⟩ := hw.out; exact hc1 j (by omega)
      have hle := HS.out (j + 1) (by omega) hj
      rw [show j + 1 - 1 = j from rfl] at hle
      clear hc1
      generalize xs[j + 1]?.getD 0 = x at *
      generalize xs[j]?.getD 0 = y at *
      have i1 : ((j : Int) + 1) < (xs.length : Int) := by omega
      have i0 : 0 ≤ ((j : Int) + 1) := by omega
      have i2 : (j : Int) < (xs.length : Int) := by omega
      have t1 : ((j : Int) + 1).toNat = j + 1 := by omega
      have w1 : IntKind.i64.wrap (j : Int) = (j : Int) := IntWalk.i64_in _ (by omega)
      have hd : decide (x < y) = false := by simp; omega
      have HD := Lib.hid hd
      clear hd
      go_wp2
      go_quiet ((go_at_call 90; exact Calls.quiet_of_same (less_q _ _ _)))
      clear w1
      rw [HD.out]
      go_wp2
      exact ⟨⟨(j : Int), by omega, by omega, rfl, by obtain ⟨n, rfl⟩ := hw.out; exact ⟨_, (World.drewN_drewN _ _ _).symm⟩⟩, by simp [intOf]⟩
    · go_wp2
      go_ret
      exact ⟨rfl, hw.out⟩
end Go.Proofs.Ytbainekfbonbjaa
