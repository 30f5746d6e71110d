/- Bytes that came in, opened (turned from seat B's NetO). No statement is proved here; nothing is assumed. -/
import Derived.Test.YtbainekfbonbjaaByt
import Derived.ChangeSlices
import Derived.OpenShut
namespace Go.Proofs.Ytbainekfbonbjaa
open Go.ChangeShapes Go.WideShapes Go.RowKit
set_option linter.unusedVariables false

section
variable {H : Type} {P : Program} {enc : TypeId × Value → H} {W : World} {base : Nat} {spare : Nat → Bool} {held : Bool}
set_option maxRecDepth 100000 in
/-- The cells of a slice of bytes. -/
theorem reads_of_ints {fuel : Nat} {q : Option Addr} {n cap : Nat} {x : DataW H × List MemPlace} (hf : DataW.trod enc Try.prog W base spare held fuel 71 [.slice q n cap] = some x) :
    ∃ (xs : List Nat), xs.length = n ∧ Reads W (.slice q n cap) (u8s xs) ∧ (∀ x ∈ xs, x < 256) ∧ n ≤ cap ∧ cap ≤ maxLen ∧ (q = none → cap = 0) := by
  rcases open_ints Try.underlying71 Try.underlying5 (by kernel_rfl) hf with ⟨hcs, _⟩ | ⟨x, l, c, zs, hcs, _, hl, hm, hz, _, hcell, hwz⟩
  · simp at hcs
    obtain ⟨rfl, rfl, rfl⟩ := hcs
    exact ⟨[], rfl, .inl ⟨none, 0, rfl, rfl, fun _ => rfl, by simp [maxLen]⟩, by simp, Nat.le_refl _, by simp [maxLen], fun _ => rfl⟩
  · simp at hcs
    obtain ⟨rfl, rfl, rfl⟩ := hcs
    have hzl : n ≤ zs.length := by rw [hz]; split <;> omega
    have hlen : ((zs.take n).map Int.toNat).length = n := by simp; omega
    refine ⟨(zs.take n).map Int.toNat, hlen, ?_, ?_, hl, hm, (by intro h; cases h)⟩
    · by_cases hn : n = 0
      · subst hn
        exact .inl ⟨some x, cap, rfl, by simp [u8s], (by intro h; cases h), hm⟩
      · obtain ⟨b, off, spot⟩ := x
        have hc := hcell 0 (by omega)
        have hspot : spot = none := by simpa [Addr.add] using World.cell?_spot hc
        subst hspot
        refine .inr ⟨b, off, cap, by rw [u8s_length, hlen], by rw [u8s_length, hlen]; exact hl, hm, fun i hi => ?_⟩
        rw [u8s_length, hlen] at hi
        have hci := hcell i (by omega)
        have hw := bounds_u8 (hwz (zs.getD i 0) (by rw [List.getD_eq_getElem?_getD, List.getElem?_eq_getElem (by omega)]; simp))
        rw [add_plain'] at hci
        rw [hci, u8s_get]
        have : zs.getD i 0 = ((zs.getD i 0).toNat : Int) := by omega
        rw [this]
        simp [hi, List.getD_eq_getElem?_getD, List.getElem?_eq_getElem (show i < zs.length by omega)]
    · intro y hy
      obtain ⟨z, hz', rfl⟩ := List.mem_map.1 hy
      have hw := bounds_u8 (hwz z (List.mem_of_mem_take hz'))
      omega
set_option maxRecDepth 100000 in
theorem open_bytes {r : Reach} {b0 : Nat} {v : Value} {d : DataW H} {p : List MemPlace} (hv : Value.okWide Try.prog W r b0 71 v) (h : DataW.Trod enc Try.prog W base spare held 71 v d p) :
    ∃ (q : Option Addr) (n cap : Nat) (xs : List Nat), v = .slice q n cap ∧ xs.length = n ∧ Reads W (.slice q n cap) (u8s xs) ∧ (∀ x ∈ xs, x < 256) ∧ n ≤ cap ∧ cap ≤ maxLen ∧ (q = none → cap = 0) := by
  obtain ⟨q, n, cap, rfl⟩ := okWide_slice Try.underlying71 hv
  obtain ⟨fuel, hf⟩ := h
  obtain ⟨xs, h⟩ := reads_of_ints (q := q) (n := n) (cap := cap) (by simpa [Value.cells] using hf)
  exact ⟨q, n, cap, xs, rfl, h⟩
end

end Go.Proofs.Ytbainekfbonbjaa
