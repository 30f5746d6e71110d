/- A slice of calls on a net, opened. No statement is proved here; nothing is assumed. -/
import Derived.Test.YtnomnhlfenhjdaaNetZi
import Derived.Test.YtnomnhlfenhjdaaNetO
namespace Go.Proofs.Ytnomnhlfenhjdaa
open Go.RowKit Go.Shelf Go.ChangeShapes Go.WideShapes Go.Deep
set_option linter.unusedVariables false
section
variable {H : Type} {P : Program} {enc : TypeId × Value → H} {W : World} {base : Nat} {spare : Nat → Bool} {held : Bool}
theorem slice_cell {t e : TypeId} {n : Nat} {v : Value} {z : DataW H × List MemPlace} (ht : P.underlying t = some (.slice e)) (h : DataW.trod enc P W base spare held n t [v] = some z) : ∃ q l c, v = .slice q l c := by
  rcases open_slice ht h with ⟨hcs, _⟩ | ⟨a, len, c, m, n', D, Pl, hcs, _⟩
  · simp at hcs; exact ⟨_, _, _, hcs⟩
  · simp at hcs; exact ⟨_, _, _, hcs⟩
set_option maxRecDepth 100000 in
theorem open_calls {r : Reach} {b0 : Nat} {v : Value} {d : DataW H} {p : List MemPlace} (hv : Value.okWide Try.prog W r b0 94 v) (h : DataW.Trod enc Try.prog W base spare held 94 v d p) :
    ∃ (q : Option Addr) (n cap : Nat) (V : Nat → Nat → Value), v = .slice q n cap ∧ n ≤ cap ∧ cap ≤ maxLen ∧ RowOf W q n 5 V ∧
      ∀ i, i < n → ∃ what way j bit q n cap xs, RowIs W (V i) what way j bit q n cap ∧ bit < 9223372036854775808 ∧ n = xs.length ∧ (∀ x ∈ xs, x < 256) ∧ Reads W (.slice q n cap) (u8s xs) ∧ (q = none → cap = 0) := by
  obtain ⟨q, n, cap, V, rfl, h1, h2, h3, h4⟩ := open_elems (k := 5) (by omega) Try.underlying94 (by kernel_rfl) hv h
  refine ⟨q, n, cap, V, rfl, h1, h2, h3, fun i hi => ?_⟩
  obtain ⟨fuel, cs, y, hl, hc, ht⟩ := h4 i hi
  obtain ⟨v0, _, _, e0, t0⟩ := elem_field Try.underlying100 (by kernel_rfl) hl ht 0 _ rfl
  obtain ⟨v1, _, _, e1, t1⟩ := elem_field Try.underlying100 (by kernel_rfl) hl ht 1 _ rfl
  obtain ⟨v2, _, _, e2, t2⟩ := elem_field Try.underlying100 (by kernel_rfl) hl ht 2 _ rfl
  obtain ⟨v3, _, _, e3, t3⟩ := elem_field Try.underlying100 (by kernel_rfl) hl ht 3 _ rfl
  obtain ⟨v4, _, _, e4, t4⟩ := elem_field Try.underlying100 (by kernel_rfl) hl ht 4 _ rfl
  obtain ⟨x0, rfl, w0⟩ := int_cell Try.underlying3 t0
  obtain ⟨x1, rfl, w1⟩ := int_cell Try.underlying3 t1
  obtain ⟨x2, rfl, w2⟩ := int_cell Try.underlying3 t2
  obtain ⟨x3, rfl, w3⟩ := int_cell Try.underlying3 t3
  obtain ⟨q4, n4, c4, rfl⟩ := slice_cell Try.underlying68 t4
  obtain ⟨xs, hxl, hr, hx, hn, hcm, hq⟩ := reads_of_ints t4
  have g0 := hc 0 (by omega)
  have g1 := hc 1 (by omega)
  have g2 := hc 2 (by omega)
  have g3 := hc 3 (by omega)
  have g4 := hc 4 (by omega)
  rw [e0] at g0
  rw [e1] at g1
  rw [e2] at g2
  rw [e3] at g3
  rw [e4] at g4
  have b3 := bounds_i64 w3
  exact ⟨x0, x1, x2, x3, q4, n4, c4, xs, ⟨(Option.some.inj g0).symm, (Option.some.inj g1).symm, (Option.some.inj g2).symm, (Option.some.inj g3).symm, (Option.some.inj g4).symm, hn, hcm⟩, by omega, hxl.symm, hx, hr, hq⟩
end
end Go.Proofs.Ytnomnhlfenhjdaa
