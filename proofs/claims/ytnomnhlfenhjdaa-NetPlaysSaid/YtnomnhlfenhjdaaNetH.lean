/- net: Flip. No statement is proved here; nothing is assumed. -/
import Derived.Test.YtnomnhlfenhjdaaNetF
import Derived.Deep.RegionLaw
import Derived.Deep.RegionLawGrows
import Derived.OwnWalkIn
import Derived.TacticsInMore
import Derived.LoopNIn
import Derived.LoopIn
import Derived.Deep.QuietTactic
import Derived.BigQuiet
import Derived.Maps.OwnIn
import Derived.Deep.RegionHeld3
import Derived.Laws.Bits64
namespace Go.Proofs.Ytnomnhlfenhjdaa
open Go.RowKit Go.Shelf
set_option linter.unusedVariables false
set_option linter.unusedSimpArgs false
attribute [local go_sem] Oper.semAt_some





/-- A byte with one bit turned, as the model reckons it. -/
def flipV (x m : Nat) : Value := .int .u8 (bits BinOp.xor IntKind.u8 (x : Int) (IntKind.u8.wrap (2 ^ m)))

/-- A byte of one element is written. -/
theorem NetAt.poke {B : Nat} {W : World} {bn : Nat} {r : Nat → Value} {e : Nat → List Sl} {d : Nat → List (List Value)} (h : NetAt B W bn r e d) {way i kd g off n cap : Nat} {c : List Value} (hw : way < 2) (hs : (e way)[i]? = some (some ⟨g, off, none⟩, n, cap)) (hc : (d way)[i]? = some c) (hk : kd < c.length) (v : Value) :
    NetAt B (W.setCell ⟨g, off + kd, none⟩ v) bn r e (upd d way ((d way).set i (c.set kd v))) ∧ StepB B W (W.setCell ⟨g, off + kd, none⟩ v) := by
  have ho := h.xd way hw i _ c hs hc
  have hgb : (encS (some ⟨g, off, none⟩, n, cap)).ownBlock = some g := rfl
  obtain ⟨hB, hlt, cur0, hg0⟩ := ho.block hgb
  have hst : Step [g] W (W.setCell ⟨g, off + kd, none⟩ v) := Step.setObj hg0 rfl (by simp) _ _
  have hdl : i < (d way).length := (List.getElem?_eq_some_iff.1 hc).1
  refine ⟨⟨obj_step h.xo hst (by simp; exact (ne_types hg0 h.xo (by decide)).symm), h.bn0, fun k hk' => (h.xr k hk').step hst (fun g' hg' => ?_), fun k hk' => ?_, fun k hk' j s c1 h1 h2 => ?_, h.nr, h.ne⟩, StepB.one hst hB hg0 rfl⟩
  · obtain ⟨_, _, cc, hcc⟩ := (h.xr k hk').block hg'
    simp; exact ne_types hcc hg0 (by decide)
  · by_cases hkw : k = way
    · subst hkw; rw [upd_same, List.length_set]; exact h.xl k hk'
    · rw [upd_other _ _ hkw]; exact h.xl k hk'
  · by_cases hkw : k = way
    · subst hkw
      rw [upd_same] at h2
      by_cases hji : j = i
      · subst hji
        rw [hs] at h1
        cases h1
        rw [List.getElem?_set_self hdl] at h2
        cases h2
        rcases ho with ⟨hn, _⟩ | ⟨g9, off9, cap9, cur9, hv9, hb9, hg9, h5, h6, h7, h8⟩
        · cases hn
        · cases hv9
          refine .inr ⟨g, off, cap, _, by simp [encS], hb9, setCell_obj hg9 _ _, by simpa using h5, h6, by simpa using h7, fun j' hj' => ?_⟩
          rw [List.length_set] at hj'
          by_cases hjk : j' = kd
          · subst hjk
            rw [Array.getElem?_setIfInBounds_self_of_lt (by omega), List.getElem?_set_self hj']
          · rw [Array.getElem?_setIfInBounds_ne (by omega), h8 j' hj', List.getElem?_set_ne (by omega)]
      · rw [List.getElem?_set_ne (by omega)] at h2
        refine (h.xd k hk' j s c1 h1 h2).step hst (fun g' hg' hm => ?_)
        simp at hm
        subst hm
        exact hji (h.ne k k j i s _ g' hk' hk' h1 hs hg' hgb).2
    · rw [upd_other _ _ hkw] at h2
      refine (h.xd k hk' j s c1 h1 h2).step hst (fun g' hg' hm => ?_)
      simp at hm
      subst hm
      exact hkw (h.ne k way j i s _ g' hk' hw h1 hs hg' hgb).1

set_option maxRecDepth 100000 in
set_option maxHeartbeats 8000000 in
theorem flip_okx (B bn way i k : Nat) (hw : way < 2) (r : Nat → Value) (e : Nat → List Sl) (d : Nat → List (List Value)) (c : List Value) (x : Nat) (hcd : (d way)[i]? = some c) (hx : c[k / 8]? = some (.int .u8 (x : Int))) (hxb : x < 256) (hcl : c.length ≤ 600) (hi : i < (e way).length) (hl : (e way).length ≤ 64) (w : World) (h : NetAt B w bn r e d) :
    Calls Try.prog 30 #[.pointer (some ⟨bn, 0, none⟩), .int .i64 (way : Int), .int .i64 (i : Int), .int .i64 (k : Int)] w fun e_ w' => e_ = .returned (.int .i64 0) ∧ NetAt B w' bn r e (upd d way ((d way).set i (c.set (k / 8) (flipV x (k % 8))))) ∧ StepB B w w' ∧ Leaves bn r e r e w w' := by
  obtain ⟨s, hs⟩ : ∃ s, (e way)[i]? = some s := ⟨_, List.getElem?_eq_getElem hi⟩
  obtain ⟨c', hc', ho⟩ := h.elem hw hs
  obtain rfl : c' = c := by rw [hcd] at hc'; exact (Option.some.inj hc').symm
  obtain ⟨g, off, c1, hr, hc1, hm1, hel⟩ := (h.xr way hw).at (j := i) (x := encS s) (by simp [hs])
  obtain ⟨g2, off2, c2, hs2, hc2, hm2, hby⟩ := ho.at hx
  rw [List.length_map] at hr hc1
  obtain ⟨hcell, hfr⟩ := h.cell hw
  rw [hr] at hcell
  obtain ⟨L, hL⟩ : ∃ L, L = (e way).length := ⟨_, rfl⟩
  obtain ⟨M, hM⟩ : ∃ M, M = c'.length := ⟨_, rfl⟩
  obtain ⟨kd, hkd⟩ : ∃ kd, kd = k / 8 := ⟨_, rfl⟩
  obtain ⟨km, hkm⟩ : ∃ km, km = k % 8 := ⟨_, rfl⟩
  have hklt : kd < M := by rw [hM, hkd]; exact (List.getElem?_eq_some_iff.1 hx).1
  rw [← hL] at hcell hr hc1
  rw [← hM] at hs2 hc2
  rw [← hkd] at hby
  rw [hs2] at hel
  rw [← hkd, ← hkm]
  obtain ⟨sa, sn, sc⟩ := s
  have hsq : ((sa, sn, sc) : Sl) = (some ⟨g2, off2, none⟩, M, c2) := by simp only [encS] at hs2; injection hs2 with a1 a2 a3; rw [a1, a2, a3]
  rw [hsq] at hs
  have HES := Lib.hid hs
  have HPK := Lib.hid (fun X (hX : NetAt B X bn r e d) => hX.poke hw hs hcd (by rw [← hM]; exact hklt) (flipV x km))
  have H := Lib.hid h
  have HW := Lib.hid hw
  have HRO := Lib.hid ((h.rowOf hw).trans hr)
  have hiL : i < L := by omega
  have hiL2 : (i : Int) < (L : Int) := by omega
  have hcm : (c1 : Int) ≤ 9223372036854775807 := by unfold maxLen at hm1; omega
  have hlc : (L : Int) ≤ (c1 : Int) := by omega
  have hLm : (L : Int) ≤ 9223372036854775807 := by omega
  have hMm : (M : Int) ≤ 600 := by omega
  have hkM : (kd : Int) < (M : Int) := by omega
  have hq1 : (k : Int) / 8 = (kd : Int) := by omega
  have hq2 : (k : Int).tdiv 8 = (kd : Int) := by rw [Int.tdiv_eq_ediv_of_nonneg (by omega)]; exact hq1
  have hq3 : IntKind.i64.wrap (kd : Int) = (kd : Int) := by rw [IntKind.wrap_i64]; omega
  have hr1 : (k : Int) % 8 = (km : Int) := by omega
  have hr2 : (k : Int).tmod 8 = (km : Int) := by rw [Int.tmod_eq_emod_of_nonneg (by omega)]; exact hr1
  have hkm8 : (km : Int) < 8 := by omega
  have t0 : ((k : Int) < 0) = False := by simp
  have t1 : ((M : Int) ≤ (kd : Int)) = False := by simp; omega
  have hfr2 : w.frozen? ⟨g2, off2 + kd, none⟩ = false := by
    rcases ho with ⟨hn, _⟩ | ⟨g9, off9, cap9, cur9, hv9, hb9, hg9, _⟩
    · rw [hs2] at hn; cases hn
    · rw [hs2] at hv9; cases hv9; exact cells_frozen hg9
  clear h hw hr hi hl hc1 hm1 hL hs hc' ho hcd hcl hx hs2 hc2 hm2 hM hkd hkm
  go_enter Try.func30, Try.ntmps30
  go_wp2_with (go_at_call 48; refine (at_ok bn way i (r 0) (r 1) _ L c1 HW.out HRO.out hiL _ H.out.xo).mono ?_; rintro e w' ⟨rfl, rfl⟩)
  have k1 : w.drew.cell? ⟨bn, 1 + way, none⟩ = some (.slice (some ⟨g, off, none⟩) L c1) := hcell
  have k2 : w.drew.cell? ⟨g, off + i, none⟩ = some (.slice (some ⟨g2, off2, none⟩) M c2) := hel
  have k3 : w.drew.cell? ⟨g2, off2 + kd, none⟩ = some (.int .u8 (x : Int)) := hby
  have k4 : w.drew.frozen? ⟨g2, off2 + kd, none⟩ = false := hfr2
  refine wp_region_noPanic ?_
  refine wp_region_held_drew (S := fun _ => True) (by kernel_rfl) trivial (fun hHeld => ?_)
  refine wpAnyH_take (i := 0) (v := ?v0_1) rfl (by kernel_rfl) (by kernel_rfl) (by kernel_rfl) (fun _ _ _ h => h) (Or.inl ⟨by rfl, ?y0_1⟩) (by assumption) ?r0_1
  case y0_1 => ((try simp only [List.getElem_toArray, List.getElem_cons_succ, List.getElem_cons_zero]); intro w hSw; (try dsimp only at hSw); go_simp; first | done | with_reducible rfl)
  (try simp only [Act.put, List.getElem_toArray, List.getElem_cons_succ, List.getElem_cons_zero, List.setIfInBounds_toArray, List.set_cons_zero, List.set_cons_succ])
  refine wpAnyH_take (i := 1) (v := ?v1_2) rfl (by kernel_rfl) (by kernel_rfl) (by kernel_rfl) (fun _ _ _ h => h) (Or.inl ⟨by rfl, ?y1_2⟩) (by assumption) ?r1_2
  case y1_2 => ((try simp only [List.getElem_toArray, List.getElem_cons_succ, List.getElem_cons_zero]); intro w hSw; (try dsimp only at hSw); go_simp; first | done | with_reducible rfl)
  (try simp only [Act.put, List.getElem_toArray, List.getElem_cons_succ, List.getElem_cons_zero, List.setIfInBounds_toArray, List.set_cons_zero, List.set_cons_succ])
  refine wpAnyH_take (i := 3) (v := ?v3_3) rfl (by kernel_rfl) (by kernel_rfl) (by kernel_rfl) (fun _ _ _ h => h) (Or.inl ⟨by rfl, ?y3_3⟩) (by assumption) ?r3_3
  case y3_3 => ((try simp only [List.getElem_toArray, List.getElem_cons_succ, List.getElem_cons_zero]); intro w hSw; (try dsimp only at hSw); go_simp; first | done | with_reducible rfl)
  (try simp only [Act.put, List.getElem_toArray, List.getElem_cons_succ, List.getElem_cons_zero, List.setIfInBounds_toArray, List.set_cons_zero, List.set_cons_succ])
  refine wpAnyH_take (i := 6) (v := ?v6_4) rfl (by kernel_rfl) (by kernel_rfl) (by kernel_rfl) (fun _ _ _ h => h) (Or.inl ⟨by rfl, ?y6_4⟩) (by assumption) ?r6_4
  case y6_4 => ((try simp only [List.getElem_toArray, List.getElem_cons_succ, List.getElem_cons_zero]); intro w hSw; (try dsimp only at hSw); go_simp; first | done | with_reducible rfl)
  (try simp only [Act.put, List.getElem_toArray, List.getElem_cons_succ, List.getElem_cons_zero, List.setIfInBounds_toArray, List.set_cons_zero, List.set_cons_succ])
  refine wpAnyH_take (i := 7) (v := ?v7_5) rfl (by kernel_rfl) (by kernel_rfl) (by kernel_rfl) (fun _ _ _ h => h) (Or.inl ⟨by rfl, ?y7_5⟩) (by assumption) ?r7_5
  case y7_5 => ((try simp only [List.getElem_toArray, List.getElem_cons_succ, List.getElem_cons_zero]); intro w hSw; (try dsimp only at hSw); go_simp; first | done | with_reducible rfl)
  (try simp only [Act.put, List.getElem_toArray, List.getElem_cons_succ, List.getElem_cons_zero, List.setIfInBounds_toArray, List.set_cons_zero, List.set_cons_succ])
  refine wpAnyH_take (i := 10) (v := ?v10_6) rfl (by kernel_rfl) (by kernel_rfl) (by kernel_rfl) (fun _ _ _ h => h) (Or.inl ⟨by rfl, ?y10_6⟩) (by assumption) ?r10_6
  case y10_6 => ((try simp only [List.getElem_toArray, List.getElem_cons_succ, List.getElem_cons_zero]); intro w hSw; (try dsimp only at hSw); go_simp; first | done | with_reducible rfl)
  (try simp only [Act.put, List.getElem_toArray, List.getElem_cons_succ, List.getElem_cons_zero, List.setIfInBounds_toArray, List.set_cons_zero, List.set_cons_succ])
  refine wpAnyH_take (i := 11) (v := ?v11_7) rfl (by kernel_rfl) (by kernel_rfl) (by kernel_rfl) (fun _ _ _ h => h) (Or.inl ⟨by rfl, ?y11_7⟩) (by assumption) ?r11_7
  case y11_7 => ((try simp only [List.getElem_toArray, List.getElem_cons_succ, List.getElem_cons_zero]); intro w hSw; (try dsimp only at hSw); go_simp; first | done | with_reducible rfl)
  (try simp only [Act.put, List.getElem_toArray, List.getElem_cons_succ, List.getElem_cons_zero, List.setIfInBounds_toArray, List.set_cons_zero, List.set_cons_succ])
  refine wpAnyH_take (i := 12) (v := ?v12_8) rfl (by kernel_rfl) (by kernel_rfl) (by kernel_rfl) (fun _ _ _ h => h) (Or.inl ⟨by rfl, ?y12_8⟩) (by assumption) ?r12_8
  case y12_8 => ((try simp only [List.getElem_toArray, List.getElem_cons_succ, List.getElem_cons_zero]); intro w hSw; (try dsimp only at hSw); go_simp; first | done | with_reducible rfl)
  (try simp only [Act.put, List.getElem_toArray, List.getElem_cons_succ, List.getElem_cons_zero, List.setIfInBounds_toArray, List.set_cons_zero, List.set_cons_succ])
  refine wpAnyH_ready (rs := [2]) (by kernel_rfl) (by simp) ?_
  refine AllReadyH.cons (o := _) rfl (fun K hK => ?_) AllReadyH.nil
  go_simp
  refine hK.out _ _ trivial (fun hHeld => ?_)
  clear hK K
  (try simp only [Act.put, List.getElem_toArray, List.getElem_cons_succ, List.getElem_cons_zero, List.setIfInBounds_toArray, List.set_cons_zero, List.set_cons_succ])
  refine wpAnyH_take (i := 4) (v := ?v4_9) rfl (by kernel_rfl) (by kernel_rfl) (by kernel_rfl) (fun _ _ _ h => h) (Or.inl ⟨by rfl, ?y4_9⟩) (by assumption) ?r4_9
  case y4_9 => ((try simp only [List.getElem_toArray, List.getElem_cons_succ, List.getElem_cons_zero]); intro w hSw; (try dsimp only at hSw); go_simp; first | done | with_reducible rfl)
  (try simp only [Act.put, List.getElem_toArray, List.getElem_cons_succ, List.getElem_cons_zero, List.setIfInBounds_toArray, List.set_cons_zero, List.set_cons_succ])
  refine wpAnyH_ready (rs := [5]) (by kernel_rfl) (by simp) ?_
  refine AllReadyH.cons (o := _) rfl (fun K hK => ?_) AllReadyH.nil
  go_simp
  refine hK.out _ _ trivial (fun hHeld => ?_)
  clear hK K
  (try simp only [Act.put, List.getElem_toArray, List.getElem_cons_succ, List.getElem_cons_zero, List.setIfInBounds_toArray, List.set_cons_zero, List.set_cons_succ])
  refine wpAnyH_take (i := 8) (v := ?v8_10) rfl (by kernel_rfl) (by kernel_rfl) (by kernel_rfl) (fun _ _ _ h => h) (Or.inl ⟨by rfl, ?y8_10⟩) (by assumption) ?r8_10
  case y8_10 => ((try simp only [List.getElem_toArray, List.getElem_cons_succ, List.getElem_cons_zero]); intro w hSw; (try dsimp only at hSw); go_simp; first | done | with_reducible rfl)
  (try simp only [Act.put, List.getElem_toArray, List.getElem_cons_succ, List.getElem_cons_zero, List.setIfInBounds_toArray, List.set_cons_zero, List.set_cons_succ])
  refine wpAnyH_ready (rs := [9]) (by kernel_rfl) (by simp) ?_
  refine AllReadyH.cons (o := _) rfl (fun K hK => ?_) AllReadyH.nil
  go_simp
  refine hK.out _ _ trivial (fun hHeld => ?_)
  clear hK K
  (try simp only [Act.put, List.getElem_toArray, List.getElem_cons_succ, List.getElem_cons_zero, List.setIfInBounds_toArray, List.set_cons_zero, List.set_cons_succ])
  refine wpAnyH_take (i := 13) (v := ?v13_11) rfl (by kernel_rfl) (by kernel_rfl) (by kernel_rfl) (fun _ _ _ h => h) (Or.inl ⟨by rfl, ?y13_11⟩) (by assumption) ?r13_11
  case y13_11 => ((try simp only [List.getElem_toArray, List.getElem_cons_succ, List.getElem_cons_zero]); intro w hSw; (try dsimp only at hSw); go_simp; first | done | with_reducible rfl)
  (try simp only [Act.put, List.getElem_toArray, List.getElem_cons_succ, List.getElem_cons_zero, List.setIfInBounds_toArray, List.set_cons_zero, List.set_cons_succ])
  refine wpAnyH_take (i := 14) (v := ?v14_12) rfl (by kernel_rfl) (by kernel_rfl) (by kernel_rfl) (fun _ _ _ h => h) (Or.inl ⟨by rfl, ?y14_12⟩) (by assumption) ?r14_12
  case y14_12 => ((try simp only [List.getElem_toArray, List.getElem_cons_succ, List.getElem_cons_zero]); intro w hSw; (try dsimp only at hSw); go_simp; first | done | with_reducible rfl)
  (try simp only [Act.put, List.getElem_toArray, List.getElem_cons_succ, List.getElem_cons_zero, List.setIfInBounds_toArray, List.set_cons_zero, List.set_cons_succ])
  refine wpAnyH_ready (rs := [15]) (by kernel_rfl) (by simp) ?_
  refine AllReadyH.cons (o := _) rfl (fun K hK => ?_) AllReadyH.nil
  go_simp
  refine hK.out _ _ trivial (fun hHeld => ?_)
  clear hK K
  (try simp only [Act.put, List.getElem_toArray, List.getElem_cons_succ, List.getElem_cons_zero, List.setIfInBounds_toArray, List.set_cons_zero, List.set_cons_succ])
  refine wpAnyH_done (by kernel_rfl) ?_ _
  refine NoPanic.normal ?_
  clear hHeld
  go_wp2
  go_ret
  have hp := HPK.out w.drew (H.out.same (Step.drew w))
  refine ⟨rfl, hp.1, (StepB.of (Step.drew _)).trans hp.2, fun g' hg' hsh => ⟨hsh, ?_⟩⟩
  exact Below.heap_setCell w.drew _ _ g' (fun e => hsh.2.2 way HW.out i _ HES.out (by rw [e]; rfl))
theorem flip_ok (B bn way i k : Nat) (hw : way < 2) (r : Nat → Value) (e : Nat → List Sl) (d : Nat → List (List Value)) (c : List Value) (x : Nat) (hcd : (d way)[i]? = some c) (hx : c[k / 8]? = some (.int .u8 (x : Int))) (hxb : x < 256) (hcl : c.length ≤ 600) (hi : i < (e way).length) (hl : (e way).length ≤ 64) (w : World) (h : NetAt B w bn r e d) :
    Calls Try.prog 30 #[.pointer (some ⟨bn, 0, none⟩), .int .i64 (way : Int), .int .i64 (i : Int), .int .i64 (k : Int)] w fun e_ w' => e_ = .returned (.int .i64 0) ∧ NetAt B w' bn r e (upd d way ((d way).set i (c.set (k / 8) (flipV x (k % 8))))) ∧ StepB B w w' := by
  refine (flip_okx B bn way i k hw r e d c x hcd hx hxb hcl hi hl w h).mono ?_
  rintro e1 w' ⟨rfl, hN, hs, _⟩
  exact ⟨rfl, hN, hs⟩
end Go.Proofs.Ytnomnhlfenhjdaa
