/- slices.Sort over a row that is owned: the same row holds the one sorted list. No statement is proved here; nothing is assumed. -/
import Derived.Test.YtbainekfbonbjaaSrtI
namespace Go.Proofs.Ytbainekfbonbjaa
open Go.RowKit Go.Sort Go.Shelf
set_option linter.unusedVariables false
set_option linter.unusedSimpArgs false

def n32 (xs : List Nat) : List Value := xs.map fun (x : Nat) => .int .u32 (x : Int)
theorem n32_len (xs : List Nat) : (n32 xs).length = xs.length := by simp [n32]
theorem n32_get (xs : List Nat) (i : Nat) : (n32 xs)[i]? = xs[i]?.map fun (x : Nat) => .int .u32 (x : Int) := by simp [n32]
def ints (xs : List Nat) : List Int := xs.map fun (x : Nat) => (x : Int)
theorem ints_enc (xs : List Nat) : (ints xs).map encV = n32 xs := by simp [ints, n32, encV]
/-- What slices.Sort makes of numbers. -/
theorem sort_nat (xs ys : List Nat) (hp : ys.Perm xs) (hs : ys.Pairwise (· < ·)) : Sort.sort ltInt (ints xs).toArray = (ints ys).toArray := by
  have h := sortInt (ints xs)
  have e : (ints xs).mergeSort (fun x y => decide (x ≤ y)) = ints ys := by
    have h1 : ((ints xs).mergeSort (fun x y => decide (x ≤ y))).Pairwise (fun x y => decide (x ≤ y) = true) := List.pairwise_mergeSort (le := fun x y : Int => decide (x ≤ y)) (fun a b c h1 h2 => by simp at *; omega) (fun a b => by simp; omega) _
    have h2 : (ints ys).Pairwise (fun x y => decide (x ≤ y) = true) := by
      unfold ints
      rw [List.pairwise_map]
      exact hs.imp (fun h => by simp; omega)
    have h3 : ((ints xs).mergeSort (fun x y => decide (x ≤ y))).Perm (ints ys) := (List.mergeSort_perm _ _).trans (hp.symm.map _)
    exact h3.eq_of_pairwise (fun a b _ _ h1 h2 => by simp at *; omega) h1 h2
  rw [e] at h
  rw [← h]
theorem holds_rowU {w : World} {g : Nat} {cur : Array Value} {e : TypeId} {xs : List Int} (hb : w.heap[g]? = some (.cells cur e (0, 0))) (ht : cur.toList.take xs.length = xs.map encV) : Holds encV w g 0 xs.toArray := by
  intro j hj
  have hj' : j < xs.length := by simpa using hj
  refine ⟨?_, by simp [World.frozen?, hb]⟩
  have h1 : (cur.toList.take xs.length)[j]? = (xs.map encV)[j]? := by rw [ht]
  rw [List.getElem?_take_of_lt hj'] at h1
  simp only [World.cell?, hb, Nat.zero_add]
  simp only [Option.isSome_none, Bool.false_eq_true, if_false]
  rw [← Array.getElem?_toList, h1]
  simp [hj']
theorem heap_sortedU {w : World} {g n : Nat} {os : Array Obj} {cur : Array Value} {e : TypeId} {fr : Nat × Nat} (d : Array Int) (hb : w.heap[g]? = some (.cells cur e fr)) :
    (grow (putRow encV (Sort.ahead w n) g 0 d) os).heap[g]? = some (.cells (putCells encV 0 d cur) e fr) := by
  have hg : g < w.heap.size := (Array.getElem?_eq_some_iff.1 hb).1
  rw [heap_grow_old _ _ (by simpa using hg)]
  simp [putRow, mapBlock, Sort.ahead, Array.getElem?_modify, hb, onCells]
theorem grownBy_sortedU {w : World} {g n : Nat} {os : Array Obj} (d : Array Int) : w.grownBy (grow (putRow encV (Sort.ahead w n) g 0 d) os) (some g) := by
  refine ⟨rfl, rfl, rfl, by simp, fun k hk hne => ?_⟩
  rw [heap_grow_old _ _ (by simpa using hk)]
  have : g ≠ k := fun e => hne (by rw [e])
  simp [putRow, mapBlock, Sort.ahead, Array.getElem?_modify, this]
theorem take_putCellsU (cur : Array Value) (ts : List Int) (h : ts.length ≤ cur.size) : (putCells encV 0 ts.toArray cur).toList.take ts.length = ts.map encV := by
  apply List.ext_getElem?
  intro j
  by_cases hj : j < ts.length
  · rw [List.getElem?_take_of_lt hj, Array.getElem?_toList]
    simp [putCells, hj, show j < cur.size by omega]
  · rw [List.getElem?_take_eq_none (by omega), List.getElem?_eq_none (by simp; omega)]
theorem sorts_row {m : Nat} (hP : PdqAt m) (hm : m < 256) (B : Nat) (v : Value) (xs ys : List Nat) (hl : xs.length ≤ m) (hp : ys.Perm xs) (hs : ys.Pairwise (· < ·)) (w : World) (h : w.ownsRow B 22 1 v xs.length (n32 xs)) :
    Calls Try.prog 111 #[v] w fun e w' => e = .returned (.tuple #[]) ∧ w'.ownsRow B 22 1 v ys.length (n32 ys) ∧ Step v.ownBlock.toList w w' := by
  have hyl : ys.length = xs.length := hp.length_eq
  obtain ⟨hl0, ⟨rfl, h0⟩ | ⟨g, cap, cur, rfl, hb, hg, h1, h2, h3, h4⟩⟩ := h
  · refine (sort_nil_u none 0 w).mono ?_
    rintro e w' ⟨rfl, rfl⟩
    have hys : ys = [] := List.eq_nil_of_length_eq_zero (by omega)
    subst hys
    exact ⟨rfl, World.ownsRow_nil _ _ _ _, Step.refl _ _⟩
  · have hil : (ints xs).length = xs.length := by simp [ints]
    have hH : Holds encV w g 0 (ints xs).toArray := holds_rowU hg (by rw [hil, ints_enc]; simpa using h4)
    have hc := sort_u hP hm g 0 cap (ints xs).toArray w hH (heap_lt hg) (by simpa [ints] using hl)
    rw [sort_nat xs ys hp hs] at hc
    have hsz : (ints xs).toArray.size = xs.length := by simp [ints]
    rw [hsz] at hc
    refine hc.mono ?_
    rintro e w' ⟨rfl, n, os, rfl⟩
    have hyl2 : (ints ys).length = xs.length := by simp [ints, hyl]
    refine ⟨rfl, ⟨by simp [n32], .inr ⟨g, cap, _, by rw [hyl], hb, heap_sortedU _ hg, by omega, h2, by simp [putCells, h3], ?_⟩⟩, Step.grown (grownBy_sortedU _) (fun j hj => ?_)⟩
    · have := take_putCellsU cur (ints ys) (by rw [hyl2]; omega)
      rw [ints_enc] at this
      rw [Nat.mul_one, hyl, ← hyl2]
      exact this
    · cases hj
      exact ⟨.inl (by simp [Value.ownBlock]), fun o ho => by rw [hg] at ho; cases ho; rfl⟩
end Go.Proofs.Ytbainekfbonbjaa
