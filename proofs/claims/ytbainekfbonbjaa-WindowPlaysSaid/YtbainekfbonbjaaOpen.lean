import Derived.Test.YtbainekfbonbjaaSeqD
import Derived.ChangeSlices
import Derived.OpenShut
import Derived.Lib.SmallJoins
namespace Go.Proofs.Ytbainekfbonbjaa
open Go.ChangeShapes Go.WideShapes Go.RowKit Go.Deep Go.Joins
set_option linter.unusedVariables false

/-- What came in, opened: a pair of u32 (a struct of two fields), an array of two u32, a slice of u32. -/
theorem wf_nat {n : Int} (h : (Lit.int .u32 n).wf = true) : ∃ m : Nat, n = (m : Int) ∧ m < 4294967296 := by
  have b := bounds_u32 h
  obtain ⟨m, rfl⟩ := Int.eq_ofNat_of_zero_le b.1
  exact ⟨m, rfl, by have := b.2; omega⟩

section
variable {H : Type} {enc : TypeId × Value → H} {W : World} {base : Nat} {spare : Nat → Bool} {held : Bool}
set_option maxRecDepth 100000 in
theorem open_span {r : Reach} {b0 : Nat} {v : Value} {d : DataW H} {p : List MemPlace} (hv : Value.okWide Try.prog W r b0 25 v) (h : DataW.Trod enc Try.prog W base spare held 25 v d p) :
    ∃ f t : Nat, v = .agg #[.int .u32 (f : Int), .int .u32 (t : Int)] ∧ f < 4294967296 ∧ t < 4294967296 := by
  obtain ⟨v0, v1, y0, y1, n, rfl, _, _, h0, h1⟩ := open_agg2 Try.underlying25 (by kernel_rfl) (by kernel_rfl) hv h
  obtain ⟨a, e0, _, w0⟩ := DataW.trod_int (P := Try.prog) Try.underlying22 h0
  obtain ⟨b, e1, _, w1⟩ := DataW.trod_int (P := Try.prog) Try.underlying22 h1
  obtain ⟨f, rfl, hf⟩ := wf_nat w0
  obtain ⟨t, rfl, ht⟩ := wf_nat w1
  cases e0
  cases e1
  exact ⟨f, t, rfl, hf, ht⟩
set_option maxRecDepth 100000 in
theorem open_two {r : Reach} {b0 : Nat} {v : Value} {d : DataW H} {p : List MemPlace} (hv : Value.okWide Try.prog W r b0 35 v) (h : DataW.Trod enc Try.prog W base spare held 35 v d p) :
    ∃ f t : Nat, v = .agg #[.int .u32 (f : Int), .int .u32 (t : Int)] ∧ f < 4294967296 ∧ t < 4294967296 := by
  obtain ⟨cs, rfl, hcs⟩ : ∃ cs : Array Value, v = .agg cs ∧ cs.size = Try.prog.cellsOf 35 := by
    simp only [Value.okWide, Try.underlying35] at hv
    obtain ⟨cs, h1, h2, _⟩ := hv
    exact ⟨cs, h1, h2⟩
  have hc2 : Try.prog.cellsOf 35 = 2 := by kernel_rfl
  have hc1 : Try.prog.cellsOf 22 = 1 := by kernel_rfl
  obtain ⟨c0, c1, rfl⟩ := array2 (hcs.trans hc2)
  obtain ⟨fuel, hf⟩ := h
  obtain ⟨xs, m, _, _, _, hl, hx⟩ := DataW.trod_array Try.underlying35 hf
  have h0 := hx 0 (by omega)
  have h1 := hx 1 (by omega)
  rw [hc1] at h0 h1
  obtain ⟨y0, hy0⟩ : ∃ y, xs[0]? = some y := ⟨_, List.getElem?_eq_getElem (by omega)⟩
  obtain ⟨y1, hy1⟩ : ∃ y, xs[1]? = some y := ⟨_, List.getElem?_eq_getElem (by omega)⟩
  rw [hy0] at h0
  rw [hy1] at h1
  obtain ⟨a, e0, _, w0⟩ := DataW.trod_int (P := Try.prog) Try.underlying22 h0
  obtain ⟨b, e1, _, w1⟩ := DataW.trod_int (P := Try.prog) Try.underlying22 h1
  simp [Value.cells] at e0 e1
  obtain ⟨f, rfl, hf2⟩ := wf_nat w0
  obtain ⟨t, rfl, ht2⟩ := wf_nat w1
  subst e0
  subst e1
  exact ⟨f, t, rfl, hf2, ht2⟩
set_option maxRecDepth 100000 in
theorem open_nums {r : Reach} {b0 : Nat} {v : Value} {d : DataW H} {p : List MemPlace} (hv : Value.okWide Try.prog W r b0 26 v) (h : DataW.Trod enc Try.prog W base spare held 26 v d p) :
    ∃ (q : Option Addr) (n cap : Nat) (xs : List Nat), v = .slice q n cap ∧ IsN .u32 W (.slice q n cap) xs ∧ ∀ x ∈ xs, x < 4294967296 := by
  obtain ⟨q, n, cap, rfl⟩ := okWide_slice Try.underlying26 hv
  refine ⟨q, n, cap, ?_⟩
  obtain ⟨fuel, hf⟩ := h
  rcases open_ints Try.underlying26 Try.underlying22 (by kernel_rfl) hf with ⟨hcs, _⟩ | ⟨x, l, c, zs, hcs, _, hl, hm, hz, _, hcell, hwz⟩
  · simp [Value.cells] at hcs
    obtain ⟨rfl, rfl, rfl⟩ := hcs
    exact ⟨[], rfl, ⟨none, 0, rfl, by simp, by simp [maxLen], fun h => absurd rfl h⟩, by simp⟩
  · simp [Value.cells] at hcs
    obtain ⟨rfl, rfl, rfl⟩ := hcs
    have hzl : n ≤ zs.length := by rw [hz]; split <;> omega
    have hlen : ((zs.take n).map Int.toNat).length = n := by simp; omega
    refine ⟨(zs.take n).map Int.toNat, rfl, ⟨some x, cap, by rw [hlen], by omega, hm, fun hne => ?_⟩, ?_⟩
    · obtain ⟨b, off, spot⟩ := x
      have hn : 0 < n := by rw [← hlen]; exact List.length_pos_iff.2 hne
      have hc := hcell 0 (by omega)
      have hspot : spot = none := by simpa [Addr.add] using World.cell?_spot hc
      subst hspot
      refine ⟨b, off, rfl, fun i hi => ?_⟩
      rw [hlen] at hi
      have hci := hcell i (by omega)
      have hw := bounds_u32 (hwz (zs.getD i 0) (by rw [List.getD_eq_getElem?_getD, List.getElem?_eq_getElem (by omega)]; simp))
      have hadd : (⟨b, off, none⟩ : Addr).add i = ⟨b, off + i, none⟩ := by simp only [Addr.add]; split <;> simp_all
      rw [hadd] at hci
      rw [hci]
      have : zs.getD i 0 = ((zs.getD i 0).toNat : Int) := by omega
      rw [this]
      simp [hi, List.getD_eq_getElem?_getD, List.getElem?_eq_getElem (show i < zs.length by omega)]
    · intro y hy
      obtain ⟨z, hz', rfl⟩ := List.mem_map.1 hy
      have hw := bounds_u32 (hwz z (List.mem_of_mem_take hz'))
      omega
end
end Go.Proofs.Ytbainekfbonbjaa
