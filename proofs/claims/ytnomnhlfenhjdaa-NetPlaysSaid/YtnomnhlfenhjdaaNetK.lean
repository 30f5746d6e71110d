/- net: a bit that stands in no byte. No statement is proved here; nothing is assumed. -/
import Derived.Test.YtnomnhlfenhjdaaNetJ
import Derived.Deep.RegionLaw
import Derived.Deep.RegionLawGrows
import Derived.OwnWalkIn
import Derived.TacticsInMore
import Derived.LoopNIn
import Derived.LoopIn
import Derived.Deep.QuietTactic
import Derived.BigQuiet
import Derived.Maps.OwnIn
import Derived.Deep.RegionHeld3
import Derived.Laws.Bits64
namespace Go.Proofs.Ytnomnhlfenhjdaa
open Go.RowKit Go.Shelf
set_option linter.unusedVariables false
set_option linter.unusedSimpArgs false
attribute [local go_sem] Oper.semAt_some






set_option maxRecDepth 100000 in
set_option maxHeartbeats 2000000 in
theorem flip_out (B bn way i : Nat) (k : Int) (hw : way < 2) (l : Nat → List (List Value)) (c : List Value) (hcd : (l way)[i]? = some c) (hk : k < 0 ∨ 8 * (c.length : Int) ≤ k) (hk63 : k < 9223372036854775808) (hcl : c.length ≤ 600) (hl : (l way).length ≤ 64) (w : World) (h : NetL B w bn l) :
    Calls Try.prog 30 #[.pointer (some ⟨bn, 0, none⟩), .int .i64 (way : Int), .int .i64 (i : Int), .int .i64 k] w fun e_ w' => e_ = .returned (.int .i64 1) ∧ w = w' := by
  obtain ⟨r, e, h⟩ := h
  have hi : i < (e way).length := by rw [h.xl way hw]; exact (List.getElem?_eq_some_iff.1 hcd).1
  have hle : (e way).length ≤ 64 := by rw [h.xl way hw]; exact hl
  obtain ⟨s, hs⟩ : ∃ s, (e way)[i]? = some s := ⟨_, List.getElem?_eq_getElem hi⟩
  obtain ⟨c', hc', ho⟩ := h.elem hw hs
  obtain rfl : c' = c := by rw [hcd] at hc'; exact (Option.some.inj hc').symm
  obtain ⟨g, off, c1, hr, hc1, hm1, hel⟩ := (h.xr way hw).at (j := i) (x := encS s) (by simp [hs])
  obtain ⟨sq, sc, hsl, hs1, hs2⟩ := ho.form
  rw [List.length_map] at hr hc1
  obtain ⟨hcell, hfr⟩ := h.cell hw
  rw [hr] at hcell
  rw [hsl] at hel
  obtain ⟨L, hL⟩ : ∃ L, L = (e way).length := ⟨_, rfl⟩
  obtain ⟨M, hM⟩ : ∃ M, M = c'.length := ⟨_, rfl⟩
  rw [← hL] at hcell hr hc1
  rw [← hM] at hel hk
  have H := Lib.hid h
  have HW := Lib.hid hw
  have HRO := Lib.hid ((h.rowOf hw).trans hr)
  have hiL : i < L := by omega
  have hcm : (c1 : Int) ≤ 9223372036854775807 := by unfold maxLen at hm1; omega
  have hlc : (L : Int) ≤ (c1 : Int) := by omega
  have hLm : (L : Int) ≤ 9223372036854775807 := by omega
  by_cases hneg : k < 0
  · have t0 : (k < 0) = True := by simp; omega
    clear h hw hr hi hl hle hc1 hm1 hL hs hc' ho hcd hcl hsl hs1 hs2 hM hk hk63 hneg
    go_enter Try.func30, Try.ntmps30
    go_wp2_with (go_at_call 48; refine (at_ok bn way i (r 0) (r 1) _ L c1 HW.out HRO.out hiL _ H.out.xo).mono ?_; rintro e w' ⟨rfl, rfl⟩)
    go_ret
    exact ⟨rfl, rfl⟩
  · obtain ⟨k, rfl⟩ := Int.eq_ofNat_of_zero_le (show 0 ≤ k by omega)
    obtain ⟨kd, hkd⟩ : ∃ kd, kd = k / 8 := ⟨_, rfl⟩
    have hq1 : (k : Int) / 8 = (kd : Int) := by omega
    have t0 : ((k : Int) < 0) = False := by simp
    have t1 : ((M : Int) ≤ (kd : Int)) = True := by simp; omega
    have t2 : M ≤ kd := by omega
    have t3 : (kd : Int) ≤ 1152921504606846975 := by omega
    clear h hw hr hi hl hle hc1 hm1 hL hs hc' ho hcd hcl hsl hs1 hs2 hM hk hk63 hkd hneg
    go_enter Try.func30, Try.ntmps30
    go_wp2_with (go_at_call 48; refine (at_ok bn way i (r 0) (r 1) _ L c1 HW.out HRO.out hiL _ H.out.xo).mono ?_; rintro e w' ⟨rfl, rfl⟩)
    go_ret
    exact ⟨rfl, rfl⟩
end Go.Proofs.Ytnomnhlfenhjdaa
