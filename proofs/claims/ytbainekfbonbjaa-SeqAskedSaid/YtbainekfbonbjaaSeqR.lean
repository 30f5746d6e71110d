import Derived.Test.YtbainekfbonbjaaSeqP
namespace Go.Proofs.Ytbainekfbonbjaa
set_option linter.unusedVariables false

/-- What is wanted of the first k numbers. -/
def wants (bits f k : Nat) : List Nat := (List.range' f k).filter (wanted bits f)
theorem wants_zero (bits f : Nat) : wants bits f 0 = [] := rfl
theorem wants_yes (bits f k : Nat) (h : bitAt bits k = false) : wants bits f (k + 1) = wants bits f k ++ [f + k] := by
  unfold wants
  rw [List.range'_concat, List.filter_append]
  simp [wanted, h]
theorem wants_no (bits f k : Nat) (h : bitAt bits k = true) : wants bits f (k + 1) = wants bits f k := by
  unfold wants
  rw [List.range'_concat, List.filter_append]
  simp [wanted, h]
theorem wants_step (bits f k : Nat) : (wants bits f k).length ≤ (wants bits f (k + 1)).length := by
  cases h : bitAt bits k
  · rw [wants_yes bits f k h]; simp
  · rw [wants_no bits f k h]; exact Nat.le_refl _
theorem wants_mono (bits f : Nat) {a b : Nat} (h : a ≤ b) : (wants bits f a).length ≤ (wants bits f b).length := by
  induction h with
  | refl => exact Nat.le_refl _
  | step _ ih => exact Nat.le_trans ih (wants_step _ _ _)

/-- Where the two loops end. -/
def StopAt (bits f L many K : Nat) : Prop :=
  K ≤ L ∧ (∀ k, k ≤ K → k < L → (wants bits f k).length ≤ many → k < K) ∧ (∀ k, k + 1 ≤ K → many < (wants bits f (k + 1)).length → k + 1 = K)
theorem stopAt_all {bits f L many : Nat} (h : (wants bits f L).length ≤ many) : StopAt bits f L many L := by
  refine ⟨Nat.le_refl _, fun k _ hk _ => hk, fun k hk hm => ?_⟩
  have := wants_mono bits f hk
  omega
theorem stopAt_cut {bits f L many k : Nat} (hk : k + 1 ≤ L) (h : (wants bits f k).length ≤ many) (h2 : many < (wants bits f (k + 1)).length) : StopAt bits f L many (k + 1) := by
  refine ⟨hk, fun j hj hl hm => ?_, fun j hj hm => ?_⟩
  · rcases Nat.lt_or_ge j (k + 1) with h3 | h3
    · exact h3
    · obtain rfl : j = k + 1 := by omega
      omega
  · rcases Nat.lt_or_ge k (j + 1) with h3 | h3
    · omega
    · have := wants_mono bits f h3
      omega
theorem prefix_range {pre : List Nat} {x f L : Nat} (h : pre ++ [x] <+: List.range' f L) : pre.length + 1 ≤ L ∧ pre = List.range' f pre.length ∧ pre ++ [x] = List.range' f (pre.length + 1) := by
  have hl := h.length_le
  simp at hl
  have h1 := List.prefix_iff_eq_take.1 h
  have h2 := List.prefix_iff_eq_take.1 ((List.prefix_append pre [x]).trans h)
  have e : ∀ k, k ≤ L → (List.range' f L).take k = List.range' f k := by
    intro k hk
    clear h h1 h2 hl
    obtain ⟨d, rfl⟩ := Nat.exists_eq_add_of_le hk
    rw [← List.range'_append_1, List.take_left' (by simp)]
  rw [e _ (by omega)] at h2
  rw [e _ (by simp; omega)] at h1
  simp at h1
  exact ⟨by omega, h2, h1⟩
theorem ownU_snoc_add {B : Nat} {W : World} {v : Value} {zs : List Nat} {f k : Nat} (h : W.ownsRow B 22 1 v (zs.length + 1) (numRow .u32 zs ++ [.int .u32 ((f : Int) + (k : Int))])) : OwnU B W v (zs ++ [f + k]) := by
  have e : ((f + k : Nat) : Int) = (f : Int) + (k : Int) := by omega
  rw [← e] at h
  exact ownU_snoc h
end Go.Proofs.Ytbainekfbonbjaa
