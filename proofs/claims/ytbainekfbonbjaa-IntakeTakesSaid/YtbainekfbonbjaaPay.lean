/- intake: payload, what the statements take. No statement is proved here; nothing is assumed. -/
import Derived.Test.YtbainekfbonbjaaRep
namespace Go.Proofs.Ytbainekfbonbjaa
open Go.RowKit Go.Shelf
set_option linter.unusedVariables false
set_option linter.unusedSimpArgs false
attribute [local go_sem] Oper.semAt_some

/-- The payload of a number below 256. -/
def payN (n : Nat) : List Nat := [0, n] ++ List.replicate (n % 7) 120
theorem payN_len (n : Nat) : (payN n).length = 2 + n % 7 := by simp [payN]; omega
theorem payN_lt (n : Nat) (h : n < 256) : ∀ x ∈ payN n, x < 256 := by
  intro x hx
  simp [payN] at hx
  rcases hx with rfl | rfl | ⟨_, rfl⟩ <;> omega
theorem repeat_zero (b c : Nat) (w : World) : Calls Try.prog 106 #[.slice (some ⟨b, 0, none⟩) 1 c, .int .i64 0] w fun e w' => e = .returned (.slice (some ⟨w.heap.size, 0, none⟩) 0 0) ∧ w.alloc (.cells #[] 5) = w' := by
  go_enter Try.func106, Try.ntmps106
  go_wp2
  go_ret
  exact ⟨rfl, rfl⟩
theorem numConv (n : Nat) (h : n < 256) : IntKind.u8.wrap (n : Int) = (n : Int) := by rw [IntKind.wrap_u8]; omega
set_option maxRecDepth 100000 in
set_option maxHeartbeats 2000000 in
theorem payload_zero (n : Nat) (h : n < 256) (h7 : n % 7 = 0) (w : World) : Calls Try.prog 76 #[.int .u32 (n : Int)] w fun e w' => ∃ v, e = .returned v ∧ OwnAt w.heap.size w' 5 v (u8s (payN n)) ∧ Step [] w w' := by
  obtain ⟨i0, hi, hz0, hz1, hz2⟩ := info_parts info5
  have e1 : (n : Int) / 256 = 0 := by omega
  have e2 := numConv n h
  have e3 : (n : Int) % 7 = 0 := by omega
  have e3t : (n : Int).tmod 7 = 0 := by rw [Int.tmod_eq_emod_of_nonneg (by omega)]; exact e3
  have HN := Lib.hid (And.intro h h7)
  clear h h7
  go_enter Try.func76, Try.ntmps76
  go_wp2_with (go_at_call 106; refine (repeat_zero _ _ _).mono ?_; rintro e w' ⟨rfl, rfl⟩)
  go_ret
  refine ⟨_, rfl, ?_, ((Step.alloc _ _).trans (Step.alloc _ _)).trans (Step.alloc _ _)⟩
  have hp : payN n = [0, n] := by unfold payN; rw [HN.out.2]; rfl
  rw [hp]
  refine .inr ⟨w.heap.size, 0, 2, #[.int .u8 0, .int .u8 (n : Int)], rfl, Nat.le_refl _, ?_, by simp [u8s], by simp [maxLen], by simp, fun j hj => ?_⟩
  · have h1 := World.alloc_heap_new w (.cells #[.int .u8 0, .int .u8 (n : Int)] 5)
    exact obj_step (S := []) (obj_step (S := []) h1 (Step.alloc _ _) (by simp)) (Step.alloc _ _) (by simp)
  · have : j = 0 ∨ j = 1 := by simp [u8s] at hj; omega
    rcases this with rfl | rfl <;> rfl
theorem olds_of {w2 w4 : World} {b g m : Nat} {x a c : Value} (hb : w2.heap[b]? = some (.cells #[a, c] 5)) (hF : Filled w2 g m m x w4) : ∀ b', some (⟨b, 0, none⟩ : Addr) = some b' → ∀ (j : Nat) u, [a, c][j]? = some u → w4.cell? (b'.add j) = some u := by
  intro b' hb' j u hj
  cases hb'
  have h4 := obj_step hb hF.2.1 (by simp)
  rw [add_lit0, Nat.zero_add]
  exact cells_cell h4 (by simpa using hj)
theorem news_of {w2 w4 : World} {g m : Nat} {x : Value} (hF : Filled w2 g m m x w4) : ∀ (j : Nat) u, (List.replicate m x)[j]? = some u → w4.cell? ((⟨g, 0, none⟩ : Addr).add j) = some u := by
  intro j u hj
  have hjm : j < m := by have := (List.getElem?_eq_some_iff.1 hj).1; simpa using this
  rw [List.getElem?_replicate, if_pos hjm] at hj
  cases hj
  rw [add_lit0, Nat.zero_add]
  exact hF.cell hjm
set_option maxRecDepth 100000 in
set_option maxHeartbeats 2000000 in
theorem payload_some (n : Nat) (h : n < 256) (h7 : 1 ≤ n % 7) (w : World) : Calls Try.prog 76 #[.int .u32 (n : Int)] w fun e w' => ∃ v, e = .returned v ∧ OwnAt w.heap.size w' 5 v (u8s (payN n)) ∧ Step [] w w' := by
  obtain ⟨i0, hi, hz0, hz1, hz2⟩ := info_parts info5
  obtain ⟨m, hm⟩ : ∃ m, m = n % 7 := ⟨_, rfl⟩
  have e1 : (n : Int) / 256 = 0 := by omega
  have e2 := numConv n h
  have e3 : (n : Int) % 7 = (m : Int) := by omega
  have e3t : (n : Int).tmod 7 = (m : Int) := by rw [Int.tmod_eq_emod_of_nonneg (by omega)]; exact e3
  have e4 : IntKind.i64.wrap (m : Int) = (m : Int) := by rw [IntKind.wrap_i64]; omega
  have HN := Lib.hid (And.intro h (And.intro hm (show 1 ≤ m ∧ m < 7 by omega)))
  clear h h7 hm
  have hs2 : Step [] w ((w.alloc (.cells #[.int .u8 0, .int .u8 (n : Int)] 5)).alloc (.cells #[.int .u8 120] 5)) := (Step.alloc _ _).trans (Step.alloc _ _)
  have HS2 := Lib.hid hs2
  have c120 : ((w.alloc (.cells #[.int .u8 0, .int .u8 (n : Int)] 5)).alloc (.cells #[.int .u8 120] 5)).cell? ⟨w.heap.size + 1, 0, none⟩ = some (.int .u8 120) := by
    have := World.alloc_heap_new (w.alloc (.cells #[.int .u8 0, .int .u8 (n : Int)] 5)) (.cells #[.int .u8 120] 5)
    rw [World.size_alloc] at this
    exact cells_cell this rfl
  have hb8 : ((w.alloc (.cells #[.int .u8 0, .int .u8 (n : Int)] 5)).alloc (.cells #[.int .u8 120] 5)).heap[w.heap.size]? = some (.cells #[.int .u8 0, .int .u8 (n : Int)] 5) := obj_step (S := []) (World.alloc_heap_new w _) (Step.alloc _ _) (by simp)
  have HR := Lib.hid (repeat_any m (w.heap.size + 1) 1 120 HN.out.2.2.1 HN.out.2.2.2 _ c120)
  have HB8 := Lib.hid hb8
  clear c120 hb8 hs2
  go_enter Try.func76, Try.ntmps76
  go_wp2_with (first
    | (go_at_call 106; refine HR.out.mono ?_; rintro e w4 ⟨g, rfl, hF⟩; have HF : Hid (Filled _ g m m (.int .u8 120) w4) := Lib.hid hF; clear hF)
    | (at_builtin; refine wpList_append_grows _ rfl _ _ 71 rfl 5 i0 (.int .u8 0) 1 1 Try.underlying71 hi hz0 hz1 hz2 rfl (by decide) (some ⟨w.heap.size, 0, none⟩) 2 2 [.int .u8 0, .int .u8 (n : Int)] rfl (fun h => by cases h) rfl (olds_of HB8.out HF.out) ⟨g, 0, none⟩ m m (List.replicate m (.int .u8 120)) rfl (by simp) (news_of HF.out) (fun u hu => by rw [List.eq_of_mem_replicate hu]; rfl) (by have := HN.out; omega) (by have := HN.out; unfold maxLen; omega) (by have := HN.out; omega) ?_; intro v' w5 ho hg; have HO := Lib.hid (And.intro ho hg); clear ho hg)
    | fail)
  go_ret
  have hp : u8s (payN n) = [.int .u8 0, .int .u8 (n : Int)] ++ List.replicate m (.int .u8 120) := by
    unfold payN u8s
    rw [← HN.out.2.1]
    simp
  rw [hp]
  have hl : w.heap.size ≤ _ := (HS2.out.trans HF.out.2.1).size
  exact ⟨v', rfl, (OwnAt.ofRow HO.out.1).low hl, (HS2.out.trans HF.out.2.1).trans (Step.ofGrown HO.out.2)⟩
theorem payload_any (n : Nat) (h : n < 256) (w : World) : Calls Try.prog 76 #[.int .u32 (n : Int)] w fun e w' => ∃ v, e = .returned v ∧ OwnAt w.heap.size w' 5 v (u8s (payN n)) ∧ Step [] w w' := by
  by_cases h7 : n % 7 = 0
  · exact payload_zero n h h7 w
  · exact payload_some n h (by omega) w
end Go.Proofs.Ytbainekfbonbjaa
