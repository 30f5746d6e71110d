/- The reference's net: Flip. No statement is proved here; nothing is assumed. -/
import Derived.Test.YtnomnhlfenhjdaaNetZa
import Derived.OwnWalkIn
import Derived.TacticsInMore
import Derived.LoopNIn
import Derived.LoopIn
import Derived.Deep.QuietTactic
import Derived.BigQuiet
import Derived.Maps.OwnIn
namespace Go.Proofs.Ytnomnhlfenhjdaa
open Go.RowKit Go.Shelf
set_option linter.unusedVariables false
set_option linter.unusedSimpArgs false
attribute [local go_sem] Oper.semAt_some

theorem flipV_pow {x m : Nat} (hm : m < 8) : flipV x m = .int .u8 (bits BinOp.xor IntKind.u8 (x : Int) ((2 ^ m : Nat) : Int)) := by
  unfold flipV
  have h : (2 : Nat) ^ m ≤ 128 := by
    have := Nat.pow_le_pow_right (show 0 < 2 by omega) (show m ≤ 7 by omega)
    simpa using this
  rw [wrap_u8m]
  have e : ((2 : Int) ^ m) = ((2 ^ m : Nat) : Int) := by simp
  rw [e]
  generalize (2 : Nat) ^ m = q at h
  rw [show (q : Int) % 256 = (q : Int) by omega]

set_option maxRecDepth 100000 in
set_option maxHeartbeats 2000000 in
theorem rflip_out (B rb way i : Nat) (k : Int) (hw : way < 2) (r : Nat → Value) (e : Nat → List Sl) (d : Nat → List (List Value)) (c : List Value) (hcd : (d way)[i]? = some c) (hk : k < 0 ∨ 8 * (c.length : Int) ≤ k) (hcl : c.length ≤ 600) (w : World) (h : RefAt B w rb r e d) :
    Calls Try.prog 56 #[.pointer (some ⟨rb, 0, none⟩), .int .i64 (way : Int), .int .i64 (i : Int), .int .i64 k] w fun e_ w' => e_ = .returned (.int .i64 1) ∧ w = w' := by
  have hi : i < (e way).length := by rw [h.xl way hw]; exact (List.getElem?_eq_some_iff.1 hcd).1
  obtain ⟨s, hs⟩ : ∃ s, (e way)[i]? = some s := ⟨_, List.getElem?_eq_getElem hi⟩
  obtain ⟨c', hc, ho⟩ := h.elem hw hs
  obtain rfl : c' = c := by rw [hcd] at hc; exact (Option.some.inj hc).symm
  obtain ⟨g, off, c1, hr, hc1, hm1, hel⟩ := (h.xr way hw).at (j := i) (x := encS s) (by simp [hs])
  rw [List.length_map] at hr hc1
  obtain ⟨L, hL⟩ : ∃ L, L = (e way).length := ⟨_, rfl⟩
  rw [← hL] at hr hc1
  have hrow := row_ok rb way (r 0) (r 1) hw w h.xo
  rw [h.rowOf hw, hr] at hrow
  obtain ⟨sq, sc, hsl, _, _⟩ := ho.form
  obtain ⟨M, hM⟩ : ∃ M, M = c'.length := ⟨_, rfl⟩
  rw [hsl] at hel
  rw [← hM] at hel hk hcl
  have HRow := Lib.hid hrow
  have HST := Lib.hid (stands_ok rb way i (r 0) (r 1) _ L c1 hw ((h.rowOf hw).trans hr) (by omega) w h.xo)
  have hiL : (i : Int) < (L : Int) := by omega
  have hlc : (L : Int) ≤ (c1 : Int) := by omega
  have hcm : (c1 : Int) ≤ 9223372036854775807 := by unfold maxLen at hm1; omega
  have hMm : (M : Int) ≤ 600 := by omega
  by_cases hneg : k < 0
  · have t0 : (k < 0) = True := by simp; omega
    clear h hw hr hi hc1 hm1 hL hs hc ho hrow hcd hsl hM hk hneg hcl
    go_enter Try.func56, Try.ntmps56
    go_wp2_with (first | (go_at_call 60; refine HST.out.mono ?_; rintro e w' ⟨rfl, rfl⟩) | (go_at_call 39; refine HRow.out.mono ?_; rintro e w' ⟨rfl, rfl⟩))
    go_ret
    exact ⟨rfl, rfl⟩
  · have t0 : (k < 0) = False := by simp; omega
    have t1 : (8 * (M : Int) ≤ k) = True := by simp; omega
    clear h hw hr hi hc1 hm1 hL hs hc ho hrow hcd hsl hM hk hneg hcl
    go_enter Try.func56, Try.ntmps56
    go_wp2_with (first | (go_at_call 60; refine HST.out.mono ?_; rintro e w' ⟨rfl, rfl⟩) | (go_at_call 39; refine HRow.out.mono ?_; rintro e w' ⟨rfl, rfl⟩))
    go_ret
    exact ⟨rfl, rfl⟩

set_option maxRecDepth 100000 in
set_option maxHeartbeats 2000000 in
theorem rflip_ok (B rb way i k : Nat) (hw : way < 2) (r : Nat → Value) (e : Nat → List Sl) (d : Nat → List (List Value)) (c : List Value) (x : Nat) (hcd : (d way)[i]? = some c) (hx : c[k / 8]? = some (.int .u8 (x : Int))) (hxb : x < 256) (hcl : c.length ≤ 600) (w : World) (h : RefAt B w rb r e d) :
    Calls Try.prog 56 #[.pointer (some ⟨rb, 0, none⟩), .int .i64 (way : Int), .int .i64 (i : Int), .int .i64 (k : Int)] w fun e_ w' => e_ = .returned (.int .i64 0) ∧ RefAt B w' rb r e (upd d way ((d way).set i (c.set (k / 8) (flipV x (k % 8))))) ∧ StepB B w w' ∧ Leaves rb r e r e w w' := by
  have hi : i < (e way).length := by rw [h.xl way hw]; exact (List.getElem?_eq_some_iff.1 hcd).1
  obtain ⟨s, hs⟩ : ∃ s, (e way)[i]? = some s := ⟨_, List.getElem?_eq_getElem hi⟩
  obtain ⟨c', hc, ho⟩ := h.elem hw hs
  obtain rfl : c' = c := by rw [hcd] at hc; exact (Option.some.inj hc).symm
  obtain ⟨g, off, c1, hr, hc1, hm1, hel⟩ := (h.xr way hw).at (j := i) (x := encS s) (by simp [hs])
  obtain ⟨g2, off2, c2, hs2, hc2, hm2, hby⟩ := ho.at hx
  rw [List.length_map] at hr hc1
  obtain ⟨L, hL⟩ : ∃ L, L = (e way).length := ⟨_, rfl⟩
  rw [← hL] at hr hc1
  have hrow := row_ok rb way (r 0) (r 1) hw w h.xo
  rw [h.rowOf hw, hr] at hrow
  obtain ⟨M, hM⟩ : ∃ M, M = c'.length := ⟨_, rfl⟩
  obtain ⟨kd, hkd⟩ : ∃ kd, kd = k / 8 := ⟨_, rfl⟩
  obtain ⟨km, hkm⟩ : ∃ km, km = k % 8 := ⟨_, rfl⟩
  have hklt : kd < M := by rw [hM, hkd]; exact (List.getElem?_eq_some_iff.1 hx).1
  rw [← hM] at hs2 hc2 hcl
  rw [← hkd] at hby
  rw [hs2] at hel
  rw [← hkd, ← hkm]
  obtain ⟨sa, sn, sc⟩ := s
  have hsq : ((sa, sn, sc) : Sl) = (some ⟨g2, off2, none⟩, M, c2) := by simp only [encS] at hs2; injection hs2 with a1 a2 a3; rw [a1, a2, a3]
  rw [hsq] at hs
  have HRow := Lib.hid hrow
  have HST := Lib.hid (stands_ok rb way i (r 0) (r 1) _ L c1 hw ((h.rowOf hw).trans hr) (by omega) w h.xo)
  have HES := Lib.hid hs
  have HW := Lib.hid hw
  have HPK := Lib.hid (h.poke hw hs hcd (by rw [← hM]; exact hklt) (flipV x km))
  have hfr2 : w.frozen? ⟨g2, off2 + kd, none⟩ = false := by
    rcases ho with ⟨hn, _⟩ | ⟨g9, off9, cap9, cur9, hv9, hb9, hg9, _⟩
    · rw [hs2] at hn; cases hn
    · rw [hs2] at hv9; cases hv9; exact cells_frozen hg9
  have hiL : (i : Int) < (L : Int) := by omega
  have hlc : (L : Int) ≤ (c1 : Int) := by omega
  have hcm : (c1 : Int) ≤ 9223372036854775807 := by unfold maxLen at hm1; omega
  have hcm2 : (c2 : Int) ≤ 9223372036854775807 := by unfold maxLen at hm2; omega
  have hMm : (M : Int) ≤ 600 := by omega
  have hMc : M ≤ c2 := hc2
  have hkM : (kd : Int) < (M : Int) := by omega
  have hq1 : (k : Int) / 8 = (kd : Int) := by omega
  have hr1 : (k : Int) % 8 = (km : Int) := by omega
  have hkm8 : (km : Int) < 8 := by omega
  have t0 : ((k : Int) < 0) = False := by simp
  have t1 : (8 * (M : Int) ≤ (k : Int)) = False := by simp; omega
  have hk63 : (k : Int) ≤ 4800 := by omega
  have HFP := Lib.hid (flipV_pow (x := x) (show km < 8 by omega))
  clear h hw hr hi hc1 hm1 hL hs hc ho hrow hcd hx hs2 hc2 hm2 hM hkd hkm hsq hcl
  go_enter Try.func56, Try.ntmps56
  go_wp2_with (first | (go_at_call 60; refine HST.out.mono ?_; rintro e w' ⟨rfl, rfl⟩) | (go_at_call 39; refine HRow.out.mono ?_; rintro e w' ⟨rfl, rfl⟩))
  go_loop [11, 12] (fun p n => ∃ j : Nat, j ≤ km ∧ n = .int .i64 (j : Int) ∧ p = .int .u8 ((2 ^ j : Nat) : Int)) (fun _ n => 8 - (intOf n).toNat)
  case atStart => exact ⟨0, by omega, rfl, by simp⟩
  case round =>
    obtain ⟨j, hj, rfl, rfl⟩ := hrel
    obtain ⟨pw, hpw⟩ : ∃ pw, pw = 2 ^ j := ⟨_, rfl⟩
    rw [← hpw]
    by_cases hlt : j < km
    · have hp64 : pw ≤ 64 := by
        rw [hpw]
        have := Nat.pow_le_pow_right (show 0 < 2 by omega) (show j ≤ 6 by omega)
        simpa using this
      have HPW := Lib.hid hpw
      have hpi : (pw : Int) ≤ 64 := by omega
      have hji : (j : Int) < (km : Int) := by omega
      clear hpw
      go_wp2
      go_round
      case rel => exact ⟨j + 1, by omega, by go_num, by rw [Nat.pow_succ, ← HPW.out]; simp⟩
      case measure => simp [intOf]; omega
    · obtain rfl : j = km := by omega
      have HPW := Lib.hid hpw
      clear hpw
      go_wp2
      go_ret
      have key : Value.int .u8 (bits BinOp.xor IntKind.u8 (x : Int) (pw : Int)) = flipV x j := by rw [HFP.out, ← HPW.out]
      rw [key]
      exact ⟨rfl, HPK.out.1, HPK.out.2, fun g' hg' hsh => ⟨hsh, Below.heap_setCell w _ _ g' (fun e => hsh.2.2 way HW.out i _ HES.out (by rw [e]; rfl))⟩⟩
end Go.Proofs.Ytnomnhlfenhjdaa
