/- Intake in plain words: what is kept, as a function; what is taken; both sides' lists. No statement is proved here; nothing is assumed. -/
import Derived.Test.YtbainekfbonbjaaMapV
namespace Go.Proofs.Ytbainekfbonbjaa
set_option linter.unusedVariables false

/-- What is kept at a number. -/
abbrev Kept7 := Nat → Option (List Nat)
def setK (f : Kept7) (k : Nat) (x : Option (List Nat)) : Kept7 := fun j => if j = k then x else f j
theorem setK_same (f : Kept7) (k : Nat) (x : Option (List Nat)) : setK f k x k = x := if_pos rfl
theorem setK_other (f : Kept7) {k j : Nat} (x : Option (List Nat)) (h : j ≠ k) : setK f k x j = f j := if_neg h
/-- What is handed on from F on; the state behind it: how many numbers further. -/
def drain : Nat → Nat → Kept7 → List (List Nat)
  | 0, _, _ => []
  | m + 1, F, f => match f F with
    | none => []
    | some p => p :: drain m (F + 1) (setK f F none)
def behind7 (F : Nat) (f : Kept7) : Nat → Kept7
  | 0 => f
  | j + 1 => setK (behind7 F f j) (F + j) none
theorem behind7_at (F : Nat) (f : Kept7) (j k : Nat) : behind7 F f j k = if F ≤ k ∧ k < F + j then none else f k := by
  induction j with
  | zero => rw [if_neg (by omega)]; rfl
  | succ j ih =>
    unfold behind7 setK
    split
    · rename_i h; rw [if_pos (by omega)]
    · rename_i h
      rw [ih]
      by_cases h2 : F ≤ k ∧ k < F + j
      · rw [if_pos h2, if_pos (by omega)]
      · rw [if_neg h2, if_neg (by omega)]
theorem drain_get (m : Nat) : ∀ (F : Nat) (f : Kept7) (j : Nat) (p : List Nat), (drain m F f)[j]? = some p → f (F + j) = some p := by
  induction m with
  | zero => intro F f j p h; simp [drain] at h
  | succ m ih =>
    intro F f j p h
    unfold drain at h
    cases hf : f F with
    | none => rw [hf] at h; simp at h
    | some q =>
      rw [hf] at h
      cases j with
      | zero => simp at h; subst h; exact hf
      | succ j =>
        simp at h
        have := ih (F + 1) _ j p h
        rw [setK_other _ _ (by omega)] at this
        rw [show F + (j + 1) = F + 1 + j by omega]
        exact this
theorem drain_len (m : Nat) : ∀ (F : Nat) (f : Kept7), (drain m F f).length ≤ m := by
  induction m with
  | zero => intro F f; simp [drain]
  | succ m ih =>
    intro F f
    unfold drain
    cases f F with
    | none => simp
    | some p => have := ih (F + 1) (setK f F none); simp; omega

/-- A list of numbered things is what a function says. -/
structure RepK {α : Type} (rd : α → List Nat → Prop) (M : List (Nat × α)) (f : Kept7) : Prop where
  nd : (M.map Prod.fst).Nodup
  to : ∀ k x, (k, x) ∈ M → ∃ p, f k = some p ∧ rd x p
  fro : ∀ k p, f k = some p → ∃ x, (k, x) ∈ M
theorem RepK.mem {α : Type} {rd : α → List Nat → Prop} {M : List (Nat × α)} {f : Kept7} (h : RepK rd M f) (k : Nat) : k ∈ M.map Prod.fst ↔ ∃ p, f k = some p := by
  constructor
  · intro hk
    obtain ⟨q, hq, rfl⟩ := List.mem_map.1 hk
    obtain ⟨p, hp, _⟩ := h.to q.1 q.2 hq
    exact ⟨p, hp⟩
  · rintro ⟨p, hp⟩
    obtain ⟨x, hx⟩ := h.fro k p hp
    exact List.mem_map.2 ⟨_, hx, rfl⟩
theorem perm_nodup {l l' : List Nat} (h : l.Nodup) (h' : l'.Nodup) (hm : ∀ k, k ∈ l ↔ k ∈ l') : l.Perm l' := by
  induction l generalizing l' with
  | nil =>
    cases l' with
    | nil => exact .nil
    | cons a t => exact absurd ((hm a).2 (by simp)) (by simp)
  | cons a t ih =>
    have ha : a ∈ l' := (hm a).1 (by simp)
    rw [List.nodup_cons] at h
    refine List.Perm.trans (.cons a (ih (l' := l'.erase a) h.2 (h'.erase a) fun k => ?_)) (List.perm_cons_erase ha).symm
    rw [h'.mem_erase_iff]
    constructor
    · intro hk
      exact ⟨fun e => h.1 (e ▸ hk), (hm k).1 (by simp [hk])⟩
    · rintro ⟨hne, hk⟩
      rcases List.mem_cons.1 ((hm k).2 hk) with e | hk2
      · exact absurd e hne
      · exact hk2
/-- Two lists of one function: alike in length and in all sums over what is kept. -/
theorem RepK.same_len {α β : Type} {rd : α → List Nat → Prop} {rd' : β → List Nat → Prop} {M : List (Nat × α)} {M' : List (Nat × β)} {f : Kept7} (h : RepK rd M f) (h' : RepK rd' M' f) : M.length = M'.length := by
  have := (perm_nodup h.nd h'.nd (fun k => (h.mem k).trans (h'.mem k).symm)).length_eq
  simpa using this
def sumK (f : Kept7) (l : List Nat) : Nat := (l.map fun k => ((f k).getD []).length).sum
theorem RepK.same_sum {α β : Type} {rd : α → List Nat → Prop} {rd' : β → List Nat → Prop} {M : List (Nat × α)} {M' : List (Nat × β)} {f : Kept7} (h : RepK rd M f) (h' : RepK rd' M' f) : sumK f (M.map Prod.fst) = sumK f (M'.map Prod.fst) := by
  unfold sumK
  exact ((perm_nodup h.nd h'.nd (fun k => (h.mem k).trans (h'.mem k).symm)).map _).sum_nat
end Go.Proofs.Ytbainekfbonbjaa
