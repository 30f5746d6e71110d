/- net: Double. No statement is proved here; nothing is assumed. -/
import Derived.Test.YtnomnhlfenhjdaaNetF
import Derived.Deep.RegionLaw
import Derived.Deep.RegionLawGrows
import Derived.OwnWalkIn
import Derived.TacticsInMore
import Derived.LoopNIn
import Derived.LoopIn
import Derived.Deep.QuietTactic
import Derived.BigQuiet
import Derived.Maps.OwnIn
import Derived.Deep.RegionHeld3
import Derived.Laws.Bits64
namespace Go.Proofs.Ytnomnhlfenhjdaa
open Go.RowKit Go.Shelf
set_option linter.unusedVariables false
set_option linter.unusedSimpArgs false
attribute [local go_sem] Oper.semAt_some





set_option maxRecDepth 100000 in
set_option maxHeartbeats 8000000 in
theorem double_okx (B bn way i : Nat) (hw : way < 2) (r : Nat → Value) (e : Nat → List Sl) (d : Nat → List (List Value)) (c : List Value) (hcd : (d way)[i]? = some c) (h1c : ∀ u ∈ c, u.oneCell' = true) (hcl : c.length < 1000000) (hi : i < (e way).length) (hl : (e way).length < 64) (w : World) (h : NetAt B w bn r e d) :
    Calls Try.prog 32 #[.pointer (some ⟨bn, 0, none⟩), .int .i64 (way : Int), .int .i64 (i : Int)] w fun e_ w' => e_ = .returned (.int .i64 0) ∧ ∃ r' s, NetAt B w' bn (upd r way r') (upd e way (e way ++ [s])) (upd d way (d way ++ [c])) ∧ StepB B w w' ∧ (∀ v c, OwnAt B w 5 v c → OwnAt B w' 5 v c) ∧ Leaves bn r e (upd r way r') (upd e way (e way ++ [s])) w w' := by
  obtain ⟨i0, hi0, hz0, hz1, hz2⟩ := info_parts info68
  obtain ⟨s, hs⟩ : ∃ s, (e way)[i]? = some s := ⟨_, List.getElem?_eq_getElem hi⟩
  obtain ⟨c', hc', ho⟩ := h.elem hw hs
  obtain rfl : c' = c := by rw [hcd] at hc'; exact (Option.some.inj hc').symm
  obtain ⟨g, off, c1, hr, hc1, hm1, hel⟩ := (h.xr way hw).at (j := i) (x := encS s) (by simp [hs])
  rw [List.length_map] at hr hc1
  obtain ⟨hcell, hfr⟩ := h.cell hw
  rw [hr] at hcell
  obtain ⟨L, hL⟩ : ∃ L, L = (e way).length := ⟨_, rfl⟩
  rw [← hL] at hcell hr hc1
  have H := Lib.hid h
  have HW := Lib.hid hw
  have HR := Lib.hid hr
  have HL := Lib.hid hl
  have HRO := Lib.hid ((h.rowOf hw).trans hr)
  have H1 := Lib.hid h1c
  have HC := Lib.hid hcl
  have hiL : i < L := by omega
  have hcm : (c1 : Int) ≤ 9223372036854775807 := by unfold maxLen at hm1; omega
  have hlc : (L : Int) ≤ (c1 : Int) := by omega
  have hLm : (L : Int) ≤ 9223372036854775807 := by omega
  have t1 : ((64 : Int) ≤ (L : Int)) = False := by simp; omega
  have t3 : (i : Int) < (L : Int) := by omega
  obtain ⟨sa, sn, sc⟩ := s
  have HO0 := Lib.hid ho
  have hel : w.cell? ⟨g, off + i, none⟩ = some (.slice sa sn sc) := hel
  clear h hw hr hi hl hc1 hm1 hL hs hc' ho hcd h1c hcl
  go_enter Try.func32, Try.ntmps32
  go_wp2_with (go_at_call 48; refine (at_ok bn way i (r 0) (r 1) _ L c1 HW.out HRO.out hiL _ H.out.xo).mono ?_; rintro e w' ⟨rfl, rfl⟩)
  have HN := Lib.hid (H.out.same (Step.drew w))
  have HVd := Lib.hid (OwnAt.reads (HO0.out.same (Step.drew w)))
  have k1 : w.drew.cell? ⟨bn, 1 + way, none⟩ = some (.slice (some ⟨g, off, none⟩) L c1) := hcell
  have k2 : w.drew.cell? ⟨g, off + i, none⟩ = some (.slice sa sn sc) := hel
  refine wp_region_noPanic ?_
  refine wp_region_held_drew (S := fun _ => True) (by kernel_rfl) trivial (fun hHeld => ?_)
  refine wpAnyH_take (i := 0) (v := ?v0_1) rfl (by kernel_rfl) (by kernel_rfl) (by kernel_rfl) (fun _ _ _ h => h) (Or.inl ⟨by rfl, ?y0_1⟩) (by assumption) ?r0_1
  case y0_1 => ((try simp only [List.getElem_toArray, List.getElem_cons_succ, List.getElem_cons_zero]); intro w hSw; (try dsimp only at hSw); go_simp; first | done | with_reducible rfl)
  (try simp only [Act.put, List.getElem_toArray, List.getElem_cons_succ, List.getElem_cons_zero, List.setIfInBounds_toArray, List.set_cons_zero, List.set_cons_succ])
  refine wpAnyH_take (i := 1) (v := ?v1_2) rfl (by kernel_rfl) (by kernel_rfl) (by kernel_rfl) (fun _ _ _ h => h) (Or.inl ⟨by rfl, ?y1_2⟩) (by assumption) ?r1_2
  case y1_2 => ((try simp only [List.getElem_toArray, List.getElem_cons_succ, List.getElem_cons_zero]); intro w hSw; (try dsimp only at hSw); go_simp; first | done | with_reducible rfl)
  (try simp only [Act.put, List.getElem_toArray, List.getElem_cons_succ, List.getElem_cons_zero, List.setIfInBounds_toArray, List.set_cons_zero, List.set_cons_succ])
  refine wpAnyH_take (i := 2) (v := ?v2_3) rfl (by kernel_rfl) (by kernel_rfl) (by kernel_rfl) (fun _ _ _ h => h) (Or.inl ⟨by rfl, ?y2_3⟩) (by assumption) ?r2_3
  case y2_3 => ((try simp only [List.getElem_toArray, List.getElem_cons_succ, List.getElem_cons_zero]); intro w hSw; (try dsimp only at hSw); go_simp; first | done | with_reducible rfl)
  (try simp only [Act.put, List.getElem_toArray, List.getElem_cons_succ, List.getElem_cons_zero, List.setIfInBounds_toArray, List.set_cons_zero, List.set_cons_succ])
  refine wpAnyH_take (i := 4) (v := ?v4_4) rfl (by kernel_rfl) (by kernel_rfl) (by kernel_rfl) (fun _ _ _ h => h) (Or.inl ⟨by rfl, ?y4_4⟩) (by assumption) ?r4_4
  case y4_4 => ((try simp only [List.getElem_toArray, List.getElem_cons_succ, List.getElem_cons_zero]); intro w hSw; (try dsimp only at hSw); go_simp; first | done | with_reducible rfl)
  (try simp only [Act.put, List.getElem_toArray, List.getElem_cons_succ, List.getElem_cons_zero, List.setIfInBounds_toArray, List.set_cons_zero, List.set_cons_succ])
  refine wpAnyH_take (i := 5) (v := ?v5_5) rfl (by kernel_rfl) (by kernel_rfl) (by kernel_rfl) (fun _ _ _ h => h) (Or.inl ⟨by rfl, ?y5_5⟩) (by assumption) ?r5_5
  case y5_5 => ((try simp only [List.getElem_toArray, List.getElem_cons_succ, List.getElem_cons_zero]); intro w hSw; (try dsimp only at hSw); go_simp; first | done | with_reducible rfl)
  (try simp only [Act.put, List.getElem_toArray, List.getElem_cons_succ, List.getElem_cons_zero, List.setIfInBounds_toArray, List.set_cons_zero, List.set_cons_succ])
  refine wpAnyH_take (i := 7) (v := ?v7_6) rfl (by kernel_rfl) (by kernel_rfl) (by kernel_rfl) (fun _ _ _ h => h) (Or.inl ⟨by rfl, ?y7_6⟩) (by assumption) ?r7_6
  case y7_6 => ((try simp only [List.getElem_toArray, List.getElem_cons_succ, List.getElem_cons_zero]); intro w hSw; (try dsimp only at hSw); go_simp; first | done | with_reducible rfl)
  (try simp only [Act.put, List.getElem_toArray, List.getElem_cons_succ, List.getElem_cons_zero, List.setIfInBounds_toArray, List.set_cons_zero, List.set_cons_succ])
  refine wpAnyH_ready (rs := [3, 6]) (by kernel_rfl) (by simp) ?_
  refine AllReadyH.cons (o := _) rfl (fun K hK => ?_) ?_
  · go_simp
    refine hK.out _ _ trivial (fun hHeld => ?_)
    clear hK K
    (try simp only [Act.put, List.getElem_toArray, List.getElem_cons_succ, List.getElem_cons_zero, List.setIfInBounds_toArray, List.set_cons_zero, List.set_cons_succ])
    refine wpAnyH_ready (rs := [6]) (by kernel_rfl) (by simp) ?_
    refine AllReadyH.cons (o := _) rfl (fun K hK => ?_) ?_
    · go_simp
      refine hK.out _ _ trivial (fun hHeld => ?_)
      clear hK K
      (try simp only [Act.put, List.getElem_toArray, List.getElem_cons_succ, List.getElem_cons_zero, List.setIfInBounds_toArray, List.set_cons_zero, List.set_cons_succ])
      refine wpAnyH_take (i := 8) (v := ?v8_7) rfl (by kernel_rfl) (by kernel_rfl) (by kernel_rfl) (fun _ _ _ h => h) (Or.inl ⟨by rfl, ?y8_7⟩) (by assumption) ?r8_7
      case y8_7 => ((try simp only [List.getElem_toArray, List.getElem_cons_succ, List.getElem_cons_zero]); intro w hSw; (try dsimp only at hSw); go_simp; first | done | with_reducible rfl)
      (try simp only [Act.put, List.getElem_toArray, List.getElem_cons_succ, List.getElem_cons_zero, List.setIfInBounds_toArray, List.set_cons_zero, List.set_cons_succ])
      refine wpAnyH_ready (rs := [9]) (by kernel_rfl) (by simp) ?_
      refine AllReadyH.cons (o := _) rfl (fun K hK => ?_) ?_
      · go_simp
        refine hK.out _ _ trivial (fun hHeld => ?_)
        clear hK K
        (try simp only [Act.put, List.getElem_toArray, List.getElem_cons_succ, List.getElem_cons_zero, List.setIfInBounds_toArray, List.set_cons_zero, List.set_cons_succ])
        refine wpAnyH_ready (rs := [10]) (by kernel_rfl) (by simp) ?_
        refine AllReadyH.cons (o := _) rfl (fun K hK => ?_) ?_
        · go_simp
          refine (clone_any (.slice sa sn sc) _ H1.out HC.out _ HVd.out).mono ?_
          rintro e1 w1 ⟨v1, rfl, ho, hs⟩
          obtain ⟨q2, n2, c2, rfl⟩ := ho.slice'
          have HO := Lib.hid ho
          have HN1 := Lib.hid (HN.out.same hs)
          have HS1 := Lib.hid hs
          have kc : w1.cell? ⟨bn, 1 + way, none⟩ = some (.slice (some ⟨g, off, none⟩) L c1) := by have := (HN1.out.cell HW.out).1; rw [HR.out] at this; exact this
          have ka : ∀ o, (w1.alloc o).cell? ⟨bn, 1 + way, none⟩ = some (.slice (some ⟨g, off, none⟩) L c1) := fun o => step_cell (Step.alloc w1 o) kc
          clear ho hs
          (try go_wp2_with fail)
          refine hK.out _ _ trivial (fun hHeld => ?_)
          clear hK K
          (try simp only [Act.put, List.getElem_toArray, List.getElem_cons_succ, List.getElem_cons_zero, List.setIfInBounds_toArray, List.set_cons_zero, List.set_cons_succ])
          refine wpAnyH_ready (rs := [11]) (by kernel_rfl) (by simp) ?_
          refine AllReadyH.cons (o := _) rfl (fun K hK => ?_) ?_
          · go_simp
            refine hK.out _ _ trivial (fun hHeld => ?_)
            clear hK K
            (try simp only [Act.put, List.getElem_toArray, List.getElem_cons_succ, List.getElem_cons_zero, List.setIfInBounds_toArray, List.set_cons_zero, List.set_cons_succ])
            refine wpAnyH_ready (rs := [12]) (by kernel_rfl) (by simp) ?_
            refine AllReadyH.cons (o := _) rfl (fun K hK => ?_) AllReadyH.nil
            (try simp only [List.getElem_toArray, List.getElem_cons_succ, List.getElem_cons_zero])
            refine step_push rfl _ _ 90 rfl 68 i0 (.slice none 0 0) 24 Try.underlying90 hi0 hz0 hz1 hz2 rfl B (.slice (some ⟨g, off, none⟩) L c1) ((e way).map encS) (by rfl) (by have := (HN1.out.same (Step.alloc w1 (.cells #[.slice q2 n2 c2] 68))).xr way HW.out; rw [HR.out] at this; exact this) rfl ⟨w1.heap.size, 0, none⟩ 1 (.slice q2 n2 c2) (by rfl) (cell_new2 rfl) (by simp [Value.oneCell']) (by have := HL.out; simp; omega) (by omega) (Nat.le_trans HN1.out.size (Step.alloc (S := []) _ _).size) ?_
            intro v' w4 hown hst hblk
            obtain ⟨qa, na, ca, rfl⟩ := hown.slice'
            obtain ⟨hE, hSB, hc, hf, hby⟩ := (HN1.out.same (Step.alloc w1 (.cells #[.slice q2 n2 c2] 68))).push HW.out (s := (q2, n2, c2)) (OwnAt.low HN.out.size (HO.out.same (Step.alloc _ _))) (fun g hg k hk j s' hs' => by have h1 := (HO.out.block hg).1; obtain ⟨c9, hc9, ho9⟩ := HN.out.elem hk hs'; exact fun h2 => by have := (ho9.block h2).2.1; omega) (by rw [HR.out]; exact hst) hown (by rw [HR.out]; exact hblk)
            rw [HR.out] at hc
            have HE := Lib.hid hE
            have HBY := Lib.hid (fun v c (h9 : OwnAt B w 5 v c) => hby v c (((h9.same (Step.drew w)).same HS1.out).same (Step.alloc _ _)))
            have HSB := Lib.hid ((StepB.of HS1.out).trans ((StepB.of (Step.alloc _ _)).trans hSB))
            have HLV := Lib.hid (show Leaves bn r e (upd r way (.slice qa na ca)) (upd e way (e way ++ [(q2, n2, c2)])) w (w4.setCell ⟨bn, 1 + way, none⟩ (.slice qa na ca)) from leaves_push HW.out HR.out ((Step.drew w).trans HS1.out) hst hblk (fun g hg => (HO.out.block hg).1))
            clear hE hSB hown hst hblk hby
            refine hK.out _ _ trivial (fun hHeld => ?_)
            clear hK K
            (try simp only [Act.put, List.getElem_toArray, List.getElem_cons_succ, List.getElem_cons_zero, List.setIfInBounds_toArray, List.set_cons_zero, List.set_cons_succ])
            refine wpAnyH_take (i := 13) (v := ?v13_8) rfl (by kernel_rfl) (by kernel_rfl) (by kernel_rfl) (fun _ _ _ h => h) (Or.inl ⟨by rfl, ?y13_8⟩) (by assumption) ?r13_8
            case y13_8 => ((try simp only [List.getElem_toArray, List.getElem_cons_succ, List.getElem_cons_zero]); intro w hSw; (try dsimp only at hSw); go_simp; first | done | with_reducible rfl)
            (try simp only [Act.put, List.getElem_toArray, List.getElem_cons_succ, List.getElem_cons_zero, List.setIfInBounds_toArray, List.set_cons_zero, List.set_cons_succ])
            refine wpAnyH_ready (rs := [14]) (by kernel_rfl) (by simp) ?_
            refine AllReadyH.cons (o := _) rfl (fun K hK => ?_) AllReadyH.nil
            go_simp
            refine hK.out _ _ trivial (fun hHeld => ?_)
            clear hK K
            (try simp only [Act.put, List.getElem_toArray, List.getElem_cons_succ, List.getElem_cons_zero, List.setIfInBounds_toArray, List.set_cons_zero, List.set_cons_succ])
            refine wpAnyH_done (by kernel_rfl) ?_ _
            refine NoPanic.normal ?_
            clear hHeld
            go_wp2
            go_ret
            exact ⟨rfl, _, _, HE.out, (StepB.of (Step.drew _)).trans HSB.out, HBY.out, HLV.out⟩
          exact AllReadyH.nil
        exact AllReadyH.nil
      exact AllReadyH.nil
    exact AllReadyH.nil
  refine AllReadyH.cons (o := _) rfl (fun K hK => ?_) ?_
  · go_simp
    refine hK.out _ _ trivial (fun hHeld => ?_)
    clear hK K
    (try simp only [Act.put, List.getElem_toArray, List.getElem_cons_succ, List.getElem_cons_zero, List.setIfInBounds_toArray, List.set_cons_zero, List.set_cons_succ])
    refine wpAnyH_take (i := 8) (v := ?v8_9) rfl (by kernel_rfl) (by kernel_rfl) (by kernel_rfl) (fun _ _ _ h => h) (Or.inl ⟨by rfl, ?y8_9⟩) (by assumption) ?r8_9
    case y8_9 => ((try simp only [List.getElem_toArray, List.getElem_cons_succ, List.getElem_cons_zero]); intro w hSw; (try dsimp only at hSw); go_simp; first | done | with_reducible rfl)
    (try simp only [Act.put, List.getElem_toArray, List.getElem_cons_succ, List.getElem_cons_zero, List.setIfInBounds_toArray, List.set_cons_zero, List.set_cons_succ])
    refine wpAnyH_ready (rs := [3, 9]) (by kernel_rfl) (by simp) ?_
    refine AllReadyH.cons (o := _) rfl (fun K hK => ?_) ?_
    · go_simp
      refine hK.out _ _ trivial (fun hHeld => ?_)
      clear hK K
      (try simp only [Act.put, List.getElem_toArray, List.getElem_cons_succ, List.getElem_cons_zero, List.setIfInBounds_toArray, List.set_cons_zero, List.set_cons_succ])
      refine wpAnyH_ready (rs := [9]) (by kernel_rfl) (by simp) ?_
      refine AllReadyH.cons (o := _) rfl (fun K hK => ?_) ?_
      · go_simp
        refine hK.out _ _ trivial (fun hHeld => ?_)
        clear hK K
        (try simp only [Act.put, List.getElem_toArray, List.getElem_cons_succ, List.getElem_cons_zero, List.setIfInBounds_toArray, List.set_cons_zero, List.set_cons_succ])
        refine wpAnyH_ready (rs := [10]) (by kernel_rfl) (by simp) ?_
        refine AllReadyH.cons (o := _) rfl (fun K hK => ?_) ?_
        · go_simp
          refine (clone_any (.slice sa sn sc) _ H1.out HC.out _ HVd.out).mono ?_
          rintro e1 w1 ⟨v1, rfl, ho, hs⟩
          obtain ⟨q2, n2, c2, rfl⟩ := ho.slice'
          have HO := Lib.hid ho
          have HN1 := Lib.hid (HN.out.same hs)
          have HS1 := Lib.hid hs
          have kc : w1.cell? ⟨bn, 1 + way, none⟩ = some (.slice (some ⟨g, off, none⟩) L c1) := by have := (HN1.out.cell HW.out).1; rw [HR.out] at this; exact this
          have ka : ∀ o, (w1.alloc o).cell? ⟨bn, 1 + way, none⟩ = some (.slice (some ⟨g, off, none⟩) L c1) := fun o => step_cell (Step.alloc w1 o) kc
          clear ho hs
          (try go_wp2_with fail)
          refine hK.out _ _ trivial (fun hHeld => ?_)
          clear hK K
          (try simp only [Act.put, List.getElem_toArray, List.getElem_cons_succ, List.getElem_cons_zero, List.setIfInBounds_toArray, List.set_cons_zero, List.set_cons_succ])
          refine wpAnyH_ready (rs := [11]) (by kernel_rfl) (by simp) ?_
          refine AllReadyH.cons (o := _) rfl (fun K hK => ?_) ?_
          · go_simp
            refine hK.out _ _ trivial (fun hHeld => ?_)
            clear hK K
            (try simp only [Act.put, List.getElem_toArray, List.getElem_cons_succ, List.getElem_cons_zero, List.setIfInBounds_toArray, List.set_cons_zero, List.set_cons_succ])
            refine wpAnyH_ready (rs := [12]) (by kernel_rfl) (by simp) ?_
            refine AllReadyH.cons (o := _) rfl (fun K hK => ?_) AllReadyH.nil
            (try simp only [List.getElem_toArray, List.getElem_cons_succ, List.getElem_cons_zero])
            refine step_push rfl _ _ 90 rfl 68 i0 (.slice none 0 0) 24 Try.underlying90 hi0 hz0 hz1 hz2 rfl B (.slice (some ⟨g, off, none⟩) L c1) ((e way).map encS) (by rfl) (by have := (HN1.out.same (Step.alloc w1 (.cells #[.slice q2 n2 c2] 68))).xr way HW.out; rw [HR.out] at this; exact this) rfl ⟨w1.heap.size, 0, none⟩ 1 (.slice q2 n2 c2) (by rfl) (cell_new2 rfl) (by simp [Value.oneCell']) (by have := HL.out; simp; omega) (by omega) (Nat.le_trans HN1.out.size (Step.alloc (S := []) _ _).size) ?_
            intro v' w4 hown hst hblk
            obtain ⟨qa, na, ca, rfl⟩ := hown.slice'
            obtain ⟨hE, hSB, hc, hf, hby⟩ := (HN1.out.same (Step.alloc w1 (.cells #[.slice q2 n2 c2] 68))).push HW.out (s := (q2, n2, c2)) (OwnAt.low HN.out.size (HO.out.same (Step.alloc _ _))) (fun g hg k hk j s' hs' => by have h1 := (HO.out.block hg).1; obtain ⟨c9, hc9, ho9⟩ := HN.out.elem hk hs'; exact fun h2 => by have := (ho9.block h2).2.1; omega) (by rw [HR.out]; exact hst) hown (by rw [HR.out]; exact hblk)
            rw [HR.out] at hc
            have HE := Lib.hid hE
            have HBY := Lib.hid (fun v c (h9 : OwnAt B w 5 v c) => hby v c (((h9.same (Step.drew w)).same HS1.out).same (Step.alloc _ _)))
            have HSB := Lib.hid ((StepB.of HS1.out).trans ((StepB.of (Step.alloc _ _)).trans hSB))
            have HLV := Lib.hid (show Leaves bn r e (upd r way (.slice qa na ca)) (upd e way (e way ++ [(q2, n2, c2)])) w (w4.setCell ⟨bn, 1 + way, none⟩ (.slice qa na ca)) from leaves_push HW.out HR.out ((Step.drew w).trans HS1.out) hst hblk (fun g hg => (HO.out.block hg).1))
            clear hE hSB hown hst hblk hby
            refine hK.out _ _ trivial (fun hHeld => ?_)
            clear hK K
            (try simp only [Act.put, List.getElem_toArray, List.getElem_cons_succ, List.getElem_cons_zero, List.setIfInBounds_toArray, List.set_cons_zero, List.set_cons_succ])
            refine wpAnyH_take (i := 13) (v := ?v13_10) rfl (by kernel_rfl) (by kernel_rfl) (by kernel_rfl) (fun _ _ _ h => h) (Or.inl ⟨by rfl, ?y13_10⟩) (by assumption) ?r13_10
            case y13_10 => ((try simp only [List.getElem_toArray, List.getElem_cons_succ, List.getElem_cons_zero]); intro w hSw; (try dsimp only at hSw); go_simp; first | done | with_reducible rfl)
            (try simp only [Act.put, List.getElem_toArray, List.getElem_cons_succ, List.getElem_cons_zero, List.setIfInBounds_toArray, List.set_cons_zero, List.set_cons_succ])
            refine wpAnyH_ready (rs := [14]) (by kernel_rfl) (by simp) ?_
            refine AllReadyH.cons (o := _) rfl (fun K hK => ?_) AllReadyH.nil
            go_simp
            refine hK.out _ _ trivial (fun hHeld => ?_)
            clear hK K
            (try simp only [Act.put, List.getElem_toArray, List.getElem_cons_succ, List.getElem_cons_zero, List.setIfInBounds_toArray, List.set_cons_zero, List.set_cons_succ])
            refine wpAnyH_done (by kernel_rfl) ?_ _
            refine NoPanic.normal ?_
            clear hHeld
            go_wp2
            go_ret
            exact ⟨rfl, _, _, HE.out, (StepB.of (Step.drew _)).trans HSB.out, HBY.out, HLV.out⟩
          exact AllReadyH.nil
        exact AllReadyH.nil
      exact AllReadyH.nil
    refine AllReadyH.cons (o := _) rfl (fun K hK => ?_) ?_
    · go_simp
      refine hK.out _ _ trivial (fun hHeld => ?_)
      clear hK K
      (try simp only [Act.put, List.getElem_toArray, List.getElem_cons_succ, List.getElem_cons_zero, List.setIfInBounds_toArray, List.set_cons_zero, List.set_cons_succ])
      refine wpAnyH_ready (rs := [3, 10]) (by kernel_rfl) (by simp) ?_
      refine AllReadyH.cons (o := _) rfl (fun K hK => ?_) ?_
      · go_simp
        refine hK.out _ _ trivial (fun hHeld => ?_)
        clear hK K
        (try simp only [Act.put, List.getElem_toArray, List.getElem_cons_succ, List.getElem_cons_zero, List.setIfInBounds_toArray, List.set_cons_zero, List.set_cons_succ])
        refine wpAnyH_ready (rs := [10]) (by kernel_rfl) (by simp) ?_
        refine AllReadyH.cons (o := _) rfl (fun K hK => ?_) ?_
        · go_simp
          refine (clone_any (.slice sa sn sc) _ H1.out HC.out _ HVd.out).mono ?_
          rintro e1 w1 ⟨v1, rfl, ho, hs⟩
          obtain ⟨q2, n2, c2, rfl⟩ := ho.slice'
          have HO := Lib.hid ho
          have HN1 := Lib.hid (HN.out.same hs)
          have HS1 := Lib.hid hs
          have kc : w1.cell? ⟨bn, 1 + way, none⟩ = some (.slice (some ⟨g, off, none⟩) L c1) := by have := (HN1.out.cell HW.out).1; rw [HR.out] at this; exact this
          have ka : ∀ o, (w1.alloc o).cell? ⟨bn, 1 + way, none⟩ = some (.slice (some ⟨g, off, none⟩) L c1) := fun o => step_cell (Step.alloc w1 o) kc
          clear ho hs
          (try go_wp2_with fail)
          refine hK.out _ _ trivial (fun hHeld => ?_)
          clear hK K
          (try simp only [Act.put, List.getElem_toArray, List.getElem_cons_succ, List.getElem_cons_zero, List.setIfInBounds_toArray, List.set_cons_zero, List.set_cons_succ])
          refine wpAnyH_ready (rs := [11]) (by kernel_rfl) (by simp) ?_
          refine AllReadyH.cons (o := _) rfl (fun K hK => ?_) ?_
          · go_simp
            refine hK.out _ _ trivial (fun hHeld => ?_)
            clear hK K
            (try simp only [Act.put, List.getElem_toArray, List.getElem_cons_succ, List.getElem_cons_zero, List.setIfInBounds_toArray, List.set_cons_zero, List.set_cons_succ])
            refine wpAnyH_ready (rs := [12]) (by kernel_rfl) (by simp) ?_
            refine AllReadyH.cons (o := _) rfl (fun K hK => ?_) AllReadyH.nil
            (try simp only [List.getElem_toArray, List.getElem_cons_succ, List.getElem_cons_zero])
            refine step_push rfl _ _ 90 rfl 68 i0 (.slice none 0 0) 24 Try.underlying90 hi0 hz0 hz1 hz2 rfl B (.slice (some ⟨g, off, none⟩) L c1) ((e way).map encS) (by rfl) (by have := (HN1.out.same (Step.alloc w1 (.cells #[.slice q2 n2 c2] 68))).xr way HW.out; rw [HR.out] at this; exact this) rfl ⟨w1.heap.size, 0, none⟩ 1 (.slice q2 n2 c2) (by rfl) (cell_new2 rfl) (by simp [Value.oneCell']) (by have := HL.out; simp; omega) (by omega) (Nat.le_trans HN1.out.size (Step.alloc (S := []) _ _).size) ?_
            intro v' w4 hown hst hblk
            obtain ⟨qa, na, ca, rfl⟩ := hown.slice'
            obtain ⟨hE, hSB, hc, hf, hby⟩ := (HN1.out.same (Step.alloc w1 (.cells #[.slice q2 n2 c2] 68))).push HW.out (s := (q2, n2, c2)) (OwnAt.low HN.out.size (HO.out.same (Step.alloc _ _))) (fun g hg k hk j s' hs' => by have h1 := (HO.out.block hg).1; obtain ⟨c9, hc9, ho9⟩ := HN.out.elem hk hs'; exact fun h2 => by have := (ho9.block h2).2.1; omega) (by rw [HR.out]; exact hst) hown (by rw [HR.out]; exact hblk)
            rw [HR.out] at hc
            have HE := Lib.hid hE
            have HBY := Lib.hid (fun v c (h9 : OwnAt B w 5 v c) => hby v c (((h9.same (Step.drew w)).same HS1.out).same (Step.alloc _ _)))
            have HSB := Lib.hid ((StepB.of HS1.out).trans ((StepB.of (Step.alloc _ _)).trans hSB))
            have HLV := Lib.hid (show Leaves bn r e (upd r way (.slice qa na ca)) (upd e way (e way ++ [(q2, n2, c2)])) w (w4.setCell ⟨bn, 1 + way, none⟩ (.slice qa na ca)) from leaves_push HW.out HR.out ((Step.drew w).trans HS1.out) hst hblk (fun g hg => (HO.out.block hg).1))
            clear hE hSB hown hst hblk hby
            refine hK.out _ _ trivial (fun hHeld => ?_)
            clear hK K
            (try simp only [Act.put, List.getElem_toArray, List.getElem_cons_succ, List.getElem_cons_zero, List.setIfInBounds_toArray, List.set_cons_zero, List.set_cons_succ])
            refine wpAnyH_take (i := 13) (v := ?v13_11) rfl (by kernel_rfl) (by kernel_rfl) (by kernel_rfl) (fun _ _ _ h => h) (Or.inl ⟨by rfl, ?y13_11⟩) (by assumption) ?r13_11
            case y13_11 => ((try simp only [List.getElem_toArray, List.getElem_cons_succ, List.getElem_cons_zero]); intro w hSw; (try dsimp only at hSw); go_simp; first | done | with_reducible rfl)
            (try simp only [Act.put, List.getElem_toArray, List.getElem_cons_succ, List.getElem_cons_zero, List.setIfInBounds_toArray, List.set_cons_zero, List.set_cons_succ])
            refine wpAnyH_ready (rs := [14]) (by kernel_rfl) (by simp) ?_
            refine AllReadyH.cons (o := _) rfl (fun K hK => ?_) AllReadyH.nil
            go_simp
            refine hK.out _ _ trivial (fun hHeld => ?_)
            clear hK K
            (try simp only [Act.put, List.getElem_toArray, List.getElem_cons_succ, List.getElem_cons_zero, List.setIfInBounds_toArray, List.set_cons_zero, List.set_cons_succ])
            refine wpAnyH_done (by kernel_rfl) ?_ _
            refine NoPanic.normal ?_
            clear hHeld
            go_wp2
            go_ret
            exact ⟨rfl, _, _, HE.out, (StepB.of (Step.drew _)).trans HSB.out, HBY.out, HLV.out⟩
          exact AllReadyH.nil
        exact AllReadyH.nil
      refine AllReadyH.cons (o := _) rfl (fun K hK => ?_) ?_
      · go_simp
        refine (clone_any (.slice sa sn sc) _ H1.out HC.out _ HVd.out).mono ?_
        rintro e1 w1 ⟨v1, rfl, ho, hs⟩
        obtain ⟨q2, n2, c2, rfl⟩ := ho.slice'
        have HO := Lib.hid ho
        have HN1 := Lib.hid (HN.out.same hs)
        have HS1 := Lib.hid hs
        have kc : w1.cell? ⟨bn, 1 + way, none⟩ = some (.slice (some ⟨g, off, none⟩) L c1) := by have := (HN1.out.cell HW.out).1; rw [HR.out] at this; exact this
        have ka : ∀ o, (w1.alloc o).cell? ⟨bn, 1 + way, none⟩ = some (.slice (some ⟨g, off, none⟩) L c1) := fun o => step_cell (Step.alloc w1 o) kc
        clear ho hs
        (try go_wp2_with fail)
        refine hK.out _ _ trivial (fun hHeld => ?_)
        clear hK K
        (try simp only [Act.put, List.getElem_toArray, List.getElem_cons_succ, List.getElem_cons_zero, List.setIfInBounds_toArray, List.set_cons_zero, List.set_cons_succ])
        refine wpAnyH_ready (rs := [3, 11]) (by kernel_rfl) (by simp) ?_
        refine AllReadyH.cons (o := _) rfl (fun K hK => ?_) ?_
        · go_simp
          refine hK.out _ _ trivial (fun hHeld => ?_)
          clear hK K
          (try simp only [Act.put, List.getElem_toArray, List.getElem_cons_succ, List.getElem_cons_zero, List.setIfInBounds_toArray, List.set_cons_zero, List.set_cons_succ])
          refine wpAnyH_ready (rs := [11]) (by kernel_rfl) (by simp) ?_
          refine AllReadyH.cons (o := _) rfl (fun K hK => ?_) ?_
          · go_simp
            refine hK.out _ _ trivial (fun hHeld => ?_)
            clear hK K
            (try simp only [Act.put, List.getElem_toArray, List.getElem_cons_succ, List.getElem_cons_zero, List.setIfInBounds_toArray, List.set_cons_zero, List.set_cons_succ])
            refine wpAnyH_ready (rs := [12]) (by kernel_rfl) (by simp) ?_
            refine AllReadyH.cons (o := _) rfl (fun K hK => ?_) AllReadyH.nil
            (try simp only [List.getElem_toArray, List.getElem_cons_succ, List.getElem_cons_zero])
            refine step_push rfl _ _ 90 rfl 68 i0 (.slice none 0 0) 24 Try.underlying90 hi0 hz0 hz1 hz2 rfl B (.slice (some ⟨g, off, none⟩) L c1) ((e way).map encS) (by rfl) (by have := (HN1.out.same (Step.alloc w1 (.cells #[.slice q2 n2 c2] 68))).xr way HW.out; rw [HR.out] at this; exact this) rfl ⟨w1.heap.size, 0, none⟩ 1 (.slice q2 n2 c2) (by rfl) (cell_new2 rfl) (by simp [Value.oneCell']) (by have := HL.out; simp; omega) (by omega) (Nat.le_trans HN1.out.size (Step.alloc (S := []) _ _).size) ?_
            intro v' w4 hown hst hblk
            obtain ⟨qa, na, ca, rfl⟩ := hown.slice'
            obtain ⟨hE, hSB, hc, hf, hby⟩ := (HN1.out.same (Step.alloc w1 (.cells #[.slice q2 n2 c2] 68))).push HW.out (s := (q2, n2, c2)) (OwnAt.low HN.out.size (HO.out.same (Step.alloc _ _))) (fun g hg k hk j s' hs' => by have h1 := (HO.out.block hg).1; obtain ⟨c9, hc9, ho9⟩ := HN.out.elem hk hs'; exact fun h2 => by have := (ho9.block h2).2.1; omega) (by rw [HR.out]; exact hst) hown (by rw [HR.out]; exact hblk)
            rw [HR.out] at hc
            have HE := Lib.hid hE
            have HBY := Lib.hid (fun v c (h9 : OwnAt B w 5 v c) => hby v c (((h9.same (Step.drew w)).same HS1.out).same (Step.alloc _ _)))
            have HSB := Lib.hid ((StepB.of HS1.out).trans ((StepB.of (Step.alloc _ _)).trans hSB))
            have HLV := Lib.hid (show Leaves bn r e (upd r way (.slice qa na ca)) (upd e way (e way ++ [(q2, n2, c2)])) w (w4.setCell ⟨bn, 1 + way, none⟩ (.slice qa na ca)) from leaves_push HW.out HR.out ((Step.drew w).trans HS1.out) hst hblk (fun g hg => (HO.out.block hg).1))
            clear hE hSB hown hst hblk hby
            refine hK.out _ _ trivial (fun hHeld => ?_)
            clear hK K
            (try simp only [Act.put, List.getElem_toArray, List.getElem_cons_succ, List.getElem_cons_zero, List.setIfInBounds_toArray, List.set_cons_zero, List.set_cons_succ])
            refine wpAnyH_take (i := 13) (v := ?v13_12) rfl (by kernel_rfl) (by kernel_rfl) (by kernel_rfl) (fun _ _ _ h => h) (Or.inl ⟨by rfl, ?y13_12⟩) (by assumption) ?r13_12
            case y13_12 => ((try simp only [List.getElem_toArray, List.getElem_cons_succ, List.getElem_cons_zero]); intro w hSw; (try dsimp only at hSw); go_simp; first | done | with_reducible rfl)
            (try simp only [Act.put, List.getElem_toArray, List.getElem_cons_succ, List.getElem_cons_zero, List.setIfInBounds_toArray, List.set_cons_zero, List.set_cons_succ])
            refine wpAnyH_ready (rs := [14]) (by kernel_rfl) (by simp) ?_
            refine AllReadyH.cons (o := _) rfl (fun K hK => ?_) AllReadyH.nil
            go_simp
            refine hK.out _ _ trivial (fun hHeld => ?_)
            clear hK K
            (try simp only [Act.put, List.getElem_toArray, List.getElem_cons_succ, List.getElem_cons_zero, List.setIfInBounds_toArray, List.set_cons_zero, List.set_cons_succ])
            refine wpAnyH_done (by kernel_rfl) ?_ _
            refine NoPanic.normal ?_
            clear hHeld
            go_wp2
            go_ret
            exact ⟨rfl, _, _, HE.out, (StepB.of (Step.drew _)).trans HSB.out, HBY.out, HLV.out⟩
          exact AllReadyH.nil
        refine AllReadyH.cons (o := _) rfl (fun K hK => ?_) ?_
        · go_simp
          refine hK.out _ _ trivial (fun hHeld => ?_)
          clear hK K
          (try simp only [Act.put, List.getElem_toArray, List.getElem_cons_succ, List.getElem_cons_zero, List.setIfInBounds_toArray, List.set_cons_zero, List.set_cons_succ])
          refine wpAnyH_ready (rs := [3]) (by kernel_rfl) (by simp) ?_
          refine AllReadyH.cons (o := _) rfl (fun K hK => ?_) ?_
          · go_simp
            refine hK.out _ _ trivial (fun hHeld => ?_)
            clear hK K
            (try simp only [Act.put, List.getElem_toArray, List.getElem_cons_succ, List.getElem_cons_zero, List.setIfInBounds_toArray, List.set_cons_zero, List.set_cons_succ])
            refine wpAnyH_ready (rs := [12]) (by kernel_rfl) (by simp) ?_
            refine AllReadyH.cons (o := _) rfl (fun K hK => ?_) AllReadyH.nil
            (try simp only [List.getElem_toArray, List.getElem_cons_succ, List.getElem_cons_zero])
            refine step_push rfl _ _ 90 rfl 68 i0 (.slice none 0 0) 24 Try.underlying90 hi0 hz0 hz1 hz2 rfl B (.slice (some ⟨g, off, none⟩) L c1) ((e way).map encS) (by rfl) (by have := (HN1.out.same (Step.alloc w1 (.cells #[.slice q2 n2 c2] 68))).xr way HW.out; rw [HR.out] at this; exact this) rfl ⟨w1.heap.size, 0, none⟩ 1 (.slice q2 n2 c2) (by rfl) (cell_new2 rfl) (by simp [Value.oneCell']) (by have := HL.out; simp; omega) (by omega) (Nat.le_trans HN1.out.size (Step.alloc (S := []) _ _).size) ?_
            intro v' w4 hown hst hblk
            obtain ⟨qa, na, ca, rfl⟩ := hown.slice'
            obtain ⟨hE, hSB, hc, hf, hby⟩ := (HN1.out.same (Step.alloc w1 (.cells #[.slice q2 n2 c2] 68))).push HW.out (s := (q2, n2, c2)) (OwnAt.low HN.out.size (HO.out.same (Step.alloc _ _))) (fun g hg k hk j s' hs' => by have h1 := (HO.out.block hg).1; obtain ⟨c9, hc9, ho9⟩ := HN.out.elem hk hs'; exact fun h2 => by have := (ho9.block h2).2.1; omega) (by rw [HR.out]; exact hst) hown (by rw [HR.out]; exact hblk)
            rw [HR.out] at hc
            have HE := Lib.hid hE
            have HBY := Lib.hid (fun v c (h9 : OwnAt B w 5 v c) => hby v c (((h9.same (Step.drew w)).same HS1.out).same (Step.alloc _ _)))
            have HSB := Lib.hid ((StepB.of HS1.out).trans ((StepB.of (Step.alloc _ _)).trans hSB))
            have HLV := Lib.hid (show Leaves bn r e (upd r way (.slice qa na ca)) (upd e way (e way ++ [(q2, n2, c2)])) w (w4.setCell ⟨bn, 1 + way, none⟩ (.slice qa na ca)) from leaves_push HW.out HR.out ((Step.drew w).trans HS1.out) hst hblk (fun g hg => (HO.out.block hg).1))
            clear hE hSB hown hst hblk hby
            refine hK.out _ _ trivial (fun hHeld => ?_)
            clear hK K
            (try simp only [Act.put, List.getElem_toArray, List.getElem_cons_succ, List.getElem_cons_zero, List.setIfInBounds_toArray, List.set_cons_zero, List.set_cons_succ])
            refine wpAnyH_take (i := 13) (v := ?v13_13) rfl (by kernel_rfl) (by kernel_rfl) (by kernel_rfl) (fun _ _ _ h => h) (Or.inl ⟨by rfl, ?y13_13⟩) (by assumption) ?r13_13
            case y13_13 => ((try simp only [List.getElem_toArray, List.getElem_cons_succ, List.getElem_cons_zero]); intro w hSw; (try dsimp only at hSw); go_simp; first | done | with_reducible rfl)
            (try simp only [Act.put, List.getElem_toArray, List.getElem_cons_succ, List.getElem_cons_zero, List.setIfInBounds_toArray, List.set_cons_zero, List.set_cons_succ])
            refine wpAnyH_ready (rs := [14]) (by kernel_rfl) (by simp) ?_
            refine AllReadyH.cons (o := _) rfl (fun K hK => ?_) AllReadyH.nil
            go_simp
            refine hK.out _ _ trivial (fun hHeld => ?_)
            clear hK K
            (try simp only [Act.put, List.getElem_toArray, List.getElem_cons_succ, List.getElem_cons_zero, List.setIfInBounds_toArray, List.set_cons_zero, List.set_cons_succ])
            refine wpAnyH_done (by kernel_rfl) ?_ _
            refine NoPanic.normal ?_
            clear hHeld
            go_wp2
            go_ret
            exact ⟨rfl, _, _, HE.out, (StepB.of (Step.drew _)).trans HSB.out, HBY.out, HLV.out⟩
          exact AllReadyH.nil
        exact AllReadyH.nil
      exact AllReadyH.nil
    exact AllReadyH.nil
  exact AllReadyH.nil
theorem double_ok (B bn way i : Nat) (hw : way < 2) (r : Nat → Value) (e : Nat → List Sl) (d : Nat → List (List Value)) (c : List Value) (hcd : (d way)[i]? = some c) (h1c : ∀ u ∈ c, u.oneCell' = true) (hcl : c.length < 1000000) (hi : i < (e way).length) (hl : (e way).length < 64) (w : World) (h : NetAt B w bn r e d) :
    Calls Try.prog 32 #[.pointer (some ⟨bn, 0, none⟩), .int .i64 (way : Int), .int .i64 (i : Int)] w fun e_ w' => e_ = .returned (.int .i64 0) ∧ ∃ r' s, NetAt B w' bn (upd r way r') (upd e way (e way ++ [s])) (upd d way (d way ++ [c])) ∧ StepB B w w' ∧ (∀ v c, OwnAt B w 5 v c → OwnAt B w' 5 v c) := by
  refine (double_okx B bn way i hw r e d c hcd h1c hcl hi hl w h).mono ?_
  rintro e1 w' ⟨rfl, r', s, hN, hs, hby, _⟩
  exact ⟨rfl, r', s, hN, hs, hby⟩
end Go.Proofs.Ytnomnhlfenhjdaa
