/- IntakeTakes: the items that came in, opened. No statement is proved here; nothing is assumed. -/
import Derived.Test.YtbainekfbonbjaaTakG
import Derived.Test.YtbainekfbonbjaaOpen
import Derived.Test.YtbainekfbonbjaaOpenB
import Derived.Deep.Slices
import Derived.Deep.Fields
import Derived.ChangeSame
import Derived.ChangeSlices
import Derived.OpenShut
import Derived.Lib.SmallJoins
namespace Go.Proofs.Ytbainekfbonbjaa
open Go.RowKit Go.Shelf Go.ChangeShapes Go.WideShapes Go.Deep Go.Joins
set_option linter.unusedVariables false

/-- The cells of a slice, k to an element: V i j is the cell j of element i. -/
def RowOf (W : World) (q : Option Addr) (n k : Nat) (V : Nat → Nat → Value) : Prop :=
  n = 0 ∨ ∃ b off, q = some ⟨b, off, none⟩ ∧ ∀ i, i < n → ∀ j, j < k → W.cell? ⟨b, off + (i * k + j), none⟩ = some (V i j)

section
variable {H : Type} {P : Program} {enc : TypeId × Value → H} {W : World} {base : Nat} {spare : Nat → Bool} {held : Bool}

/-- A slice of elements of k cells each, out of the datum: its cells, and each element's own reading. -/
theorem open_elems {t e : TypeId} {k : Nat} {r : Reach} {b0 : Nat} {v : Value} {d : DataW H} {p : List MemPlace} (hk : 0 < k) (ht : P.underlying t = some (.slice e)) (hc : P.cellsOf e = k)
    (hv : Value.okWide P W r b0 t v) (h : DataW.Trod enc P W base spare held t v d p) :
    ∃ (q : Option Addr) (n cap : Nat) (V : Nat → Nat → Value), v = .slice q n cap ∧ n ≤ cap ∧ cap ≤ maxLen ∧ RowOf W q n k V ∧
      ∀ i, i < n → ∃ (fuel : Nat) (cs : List Value) (y : DataW H × List MemPlace), cs.length = k ∧ (∀ j, j < k → cs[j]? = some (V i j)) ∧ DataW.trod enc P W base spare held fuel e cs = some y := by
  obtain ⟨q, n, cap, rfl⟩ := okWide_slice ht hv
  obtain ⟨fuel, hf⟩ := h
  rcases open_slice ht hf with ⟨hcs, _⟩ | ⟨a, len, c, m, n', D, Pl, hcs, hb, hl, hm, hmm, hx, hi⟩
  · simp [Value.cells] at hcs
    obtain ⟨rfl, rfl, rfl⟩ := hcs
    exact ⟨none, 0, 0, fun _ _ => undef, rfl, Nat.le_refl _, by simp [maxLen], .inl rfl, fun i hi => absurd hi (by omega)⟩
  · simp [Value.cells] at hcs
    obtain ⟨rfl, rfl, rfl⟩ := hcs
    have hle : n ≤ m := by rw [hmm]; split <;> omega
    rw [hc] at hi
    have hel : ∀ i, ∃ cs : List Value, i < n → cs.length = k ∧ (∀ j, j < k → W.cell? ((a.add (i * k)).add j) = cs[j]?) ∧ ∃ y, DataW.trod enc P W base spare held n' e cs = some y := by
      intro i
      by_cases hin : i < n
      · obtain ⟨cs', h1, h2⟩ := hi i (by omega)
        obtain ⟨_, hlen, hat⟩ := World.cells?_some h1
        exact ⟨cs', fun _ => ⟨hlen, hat, _, h2⟩⟩
      · exact ⟨[], fun h => absurd h hin⟩
    let C := fun i => (hel i).choose
    have hC : ∀ i, i < n → (C i).length = k ∧ (∀ j, j < k → W.cell? ((a.add (i * k)).add j) = (C i)[j]?) ∧ ∃ y, DataW.trod enc P W base spare held n' e (C i) = some y := fun i => (hel i).choose_spec
    clear_value C
    refine ⟨some a, n, cap, fun i j => ((C i)[j]?).getD undef, rfl, hl, hm, ?_, ?_⟩
    · by_cases hn : n = 0
      · exact .inl hn
      · obtain ⟨b, off, spot⟩ := a
        obtain ⟨h1, h2, _⟩ := hC 0 (by omega)
        have h3 := h2 0 hk
        rw [List.getElem?_eq_getElem (by omega)] at h3
        have hspot : spot = none := by simpa [Addr.add] using World.cell?_spot h3
        subst hspot
        refine .inr ⟨b, off, rfl, fun i hi' j hj => ?_⟩
        obtain ⟨h4, h5, _⟩ := hC i hi'
        have h6 := h5 j hj
        rw [add_plain', add_plain', List.getElem?_eq_getElem (by omega)] at h6
        rw [← Nat.add_assoc, h6]
        simp [List.getElem?_eq_getElem (show j < (C i).length by omega)]
    · intro i hi'
      obtain ⟨h4, h5, y, h6⟩ := hC i hi'
      refine ⟨n', C i, y, h4, fun j hj => ?_, h6⟩
      simp [List.getElem?_eq_getElem (show j < (C i).length by omega)]

/-- A field of an element (all of its fields are of one cell). -/
theorem elem_field {e : TypeId} {fs : Array Field} {fuel : Nat} {cs : List Value} {y : DataW H × List MemPlace} (he : P.underlying e = some (.struct fs)) (hone : oneCellFields P fs = true) (hlen : cs.length = fs.size)
    (h : DataW.trod enc P W base spare held fuel e cs = some y) (j : Nat) (f : Field) (hj : fs[j]? = some f) : ∃ (v : Value) (n : Nat) (z : DataW H × List MemPlace), cs[j]? = some v ∧ DataW.trod enc P W base spare held n f.type [v] = some z := by
  obtain ⟨ys, n', _, _, _, hyl, hf⟩ := DataW.trod_struct he h
  obtain ⟨ho, hk⟩ := hone_of hone j f hj
  have hjl : j < fs.size := (Array.getElem?_eq_some_iff.1 hj).1
  have h1 := hf j f hj
  rw [ho, hk] at h1
  have hone' : (cs.drop j).take 1 = [cs[j]'(by omega)] := by
    rw [List.drop_eq_getElem_cons (by omega)]
    rfl
  rw [hone'] at h1
  have hys : ys[j]? = some (ys[j]'(by omega)) := List.getElem?_eq_getElem (by omega)
  exact ⟨_, n', _, List.getElem?_eq_getElem (by omega), h1.trans hys⟩
theorem int_cell {t : TypeId} {k : IntKind} {n : Nat} {v : Value} {z : DataW H × List MemPlace} (ht : P.underlying t = some (.int k)) (h : DataW.trod enc P W base spare held n t [v] = some z) : ∃ a, v = .int k a ∧ (Lit.int k a).wf = true := by
  obtain ⟨a, e0, _, w0⟩ := DataW.trod_int (P := P) ht h
  cases e0
  exact ⟨a, rfl, w0⟩
theorem slice_cell {t e : TypeId} {n : Nat} {v : Value} {z : DataW H × List MemPlace} (ht : P.underlying t = some (.slice e)) (h : DataW.trod enc P W base spare held n t [v] = some z) : ∃ q l c, v = .slice q l c := by
  rcases open_slice ht h with ⟨hcs, _⟩ | ⟨a, len, c, m, n', D, Pl, hcs, _⟩
  · simp at hcs; exact ⟨_, _, _, hcs⟩
  · simp at hcs; exact ⟨_, _, _, hcs⟩
set_option maxRecDepth 100000 in
theorem open_items {r : Reach} {b0 : Nat} {v : Value} {d : DataW H} {p : List MemPlace} (hv : Value.okWide Try.prog W r b0 108 v) (h : DataW.Trod enc Try.prog W base spare held 108 v d p) :
    ∃ (q : Option Addr) (n cap : Nat) (V : Nat → Nat → Value), v = .slice q n cap ∧ n ≤ cap ∧ cap ≤ maxLen ∧ RowOf W q n 2 V ∧
      ∀ i, i < n → ∃ (k : Nat) (q : Option Addr) (n cap : Nat) (xs : List Nat), V i 0 = .int .u32 (k : Int) ∧ k < 4294967296 ∧ V i 1 = .slice q n cap ∧ n ≤ cap ∧ cap ≤ maxLen ∧ n = xs.length ∧ (∀ x ∈ xs, x < 256) ∧ Reads W (.slice q n cap) (u8s xs) ∧ (q = none → cap = 0) := by
  obtain ⟨q, n, cap, V, rfl, h1, h2, h3, h4⟩ := open_elems (k := 2) (by omega) Try.underlying108 (by kernel_rfl) hv h
  refine ⟨q, n, cap, V, rfl, h1, h2, h3, fun i hi => ?_⟩
  obtain ⟨fuel, cs, y, hl, hc, ht⟩ := h4 i hi
  obtain ⟨v0, _, _, e0, t0⟩ := elem_field Try.underlying115 (by kernel_rfl) hl ht 0 _ rfl
  obtain ⟨v1, _, _, e1, t1⟩ := elem_field Try.underlying115 (by kernel_rfl) hl ht 1 _ rfl
  obtain ⟨x0, rfl, w0⟩ := int_cell Try.underlying22 t0
  obtain ⟨m, rfl, hm⟩ := wf_nat w0
  obtain ⟨q4, n4, c4, rfl⟩ := slice_cell Try.underlying71 t1
  obtain ⟨xs, hxl, hr, hx, hn, hcm, hq⟩ := reads_of_ints t1
  have g0 := hc 0 (by omega)
  have g1 := hc 1 (by omega)
  rw [e0] at g0
  rw [e1] at g1
  exact ⟨m, q4, n4, c4, xs, (Option.some.inj g0).symm, hm, (Option.some.inj g1).symm, hn, hcm, hxl.symm, hx, hr, hq⟩
end
end Go.Proofs.Ytbainekfbonbjaa
