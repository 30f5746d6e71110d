/- A slice of acts on a net, opened. No statement is proved here; nothing is assumed. -/
import Derived.Test.YtnomnhlfenhjdaaNetV
namespace Go.Proofs.Ytnomnhlfenhjdaa
open Go.RowKit Go.Shelf Go.ChangeShapes Go.WideShapes Go.Deep
set_option linter.unusedVariables false
section
variable {H : Type} {P : Program} {enc : TypeId × Value → H} {W : World} {base : Nat} {spare : Nat → Bool} {held : Bool}
theorem bool_cell {t : TypeId} {n : Nat} {v : Value} {z : DataW H × List MemPlace} (ht : P.underlying t = some .bool) (h : DataW.trod enc P W base spare held n t [v] = some z) : ∃ b, v = .bool b := by
  obtain ⟨a, e0, _⟩ := DataW.trod_bool (P := P) ht h
  cases e0
  exact ⟨a, rfl⟩
set_option maxRecDepth 100000 in
theorem open_netActs {r : Reach} {b0 : Nat} {v : Value} {d : DataW H} {p : List MemPlace} (hv : Value.okWide Try.prog W r b0 79 v) (h : DataW.Trod enc Try.prog W base spare held 79 v d p) :
    ∃ (q : Option Addr) (n cap : Nat) (V : Nat → Nat → Value), v = .slice q n cap ∧ n ≤ cap ∧ cap ≤ maxLen ∧ RowOf W q n 3 V ∧
      ∀ i, i < n → ∃ (x y : Nat) (b : Bool), V i 0 = .int .u8 (x : Int) ∧ V i 1 = .int .u8 (y : Int) ∧ V i 2 = .bool b ∧ x < 256 ∧ y < 256 := by
  obtain ⟨q, n, cap, V, rfl, h1, h2, h3, h4⟩ := open_elems (k := 3) (by omega) Try.underlying79 (by kernel_rfl) hv h
  refine ⟨q, n, cap, V, rfl, h1, h2, h3, fun i hi => ?_⟩
  obtain ⟨fuel, cs, y, hl, hc, ht⟩ := h4 i hi
  obtain ⟨v0, _, _, e0, t0⟩ := elem_field Try.underlying84 (by kernel_rfl) hl ht 0 _ rfl
  obtain ⟨v1, _, _, e1, t1⟩ := elem_field Try.underlying84 (by kernel_rfl) hl ht 1 _ rfl
  obtain ⟨v2, _, _, e2, t2⟩ := elem_field Try.underlying84 (by kernel_rfl) hl ht 2 _ rfl
  obtain ⟨x, rfl, w0⟩ := int_cell Try.underlying5 t0
  obtain ⟨y, rfl, w1⟩ := int_cell Try.underlying5 t1
  obtain ⟨b, rfl⟩ := bool_cell Try.underlying4 t2
  have g0 := hc 0 (by omega)
  have g1 := hc 1 (by omega)
  have g2 := hc 2 (by omega)
  rw [e0] at g0
  rw [e1] at g1
  rw [e2] at g2
  have b0 := bounds_u8 w0
  have b1 := bounds_u8 w1
  obtain ⟨x, rfl⟩ := Int.eq_ofNat_of_zero_le b0.1
  obtain ⟨y, rfl⟩ := Int.eq_ofNat_of_zero_le b1.1
  exact ⟨x, y, b, (Option.some.inj g0).symm, (Option.some.inj g1).symm, (Option.some.inj g2).symm, by omega, by omega⟩
end
end Go.Proofs.Ytnomnhlfenhjdaa
