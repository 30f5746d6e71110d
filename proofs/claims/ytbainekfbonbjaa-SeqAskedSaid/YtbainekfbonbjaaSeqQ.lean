import Derived.Test.YtbainekfbonbjaaSeqR
import Derived.Test.YtbainekfbonbjaaBaseB
import Derived.OwnWalkIn
import Derived.TacticsInMore
import Derived.LoopNIn
import Derived.LoopIn
import Derived.Deep.QuietTactic
import Derived.BigQuiet
import Derived.Maps.OwnIn
namespace Go.Proofs.Ytbainekfbonbjaa
open Go.RowKit Go.Shelf
set_option linter.unusedVariables false
attribute [local go_sem] Oper.semAt_some

def AskedStop (w7 : World) (b4 b5 bits f L many : Nat) (c : Code) (s : List Nat × Nat) (W : World) : Prop :=
  c = .exit 0 ∧ s.1 ++ [s.2] <+: List.range' f L ∧ Step [b4, b5] w7 W ∧ Two w7.heap.size b4 b5 (s.1 ++ [s.2]) ((s.1 ++ [s.2]).filter (wanted bits f)) W ∧ (s.1.filter (wanted bits f)).length ≤ many ∧ many < ((s.1 ++ [s.2]).filter (wanted bits f)).length
theorem stop_abide (w7 : World) (b4 b5 bits f L many : Nat) (c : Code) : Abide w7.heap.size (AskedStop w7 b4 b5 bits f L many c) :=
  fun s A B ⟨h0, h1, h2, h3, h4⟩ hc => ⟨h0, h1, h2.calm hc (Nat.le_refl _), h3.calm hc, h4⟩

set_option maxRecDepth 100000 in
set_option maxHeartbeats 4000000 in
theorem asked_walk (n0 len bits n3 : Nat) (h0 : n0 < 4294967296) (hlen : len < 256) (hbits : bits < 18446744073709551616) (h3 : n3 < 256) (w : World) :
    Calls Try.prog 3 #[.int .u32 (n0 : Int), .int .u8 (len : Int), .int .u64 (bits : Int), .int .u8 (n3 : Int)] w fun e w' => e = .returned (.bool true) ∧ Step [] w w' := by
  obtain ⟨i0, hi, hz0, hz1, hz2⟩ := info_parts info22
  have e1 : (n0 : Int) % 2147483648 = ((n0 % 2147483648 : Nat) : Int) := by omega
  have hf : n0 % 2147483648 < 2147483648 := Nat.mod_lt _ (by omega)
  have e2 : (len : Int) % 61 = ((len % 61 : Nat) : Int) := by omega
  have hL : len % 61 < 61 := Nat.mod_lt _ (by omega)
  refine (callsIn_wide (n := 0)).1 (callsIn_of_wp_marks Try.func3 rfl trivial ?_ rfl)
  simp only [Try.ntmps3, List.size_toArray, List.length_cons, List.length_nil, Nat.reduceAdd, Nat.reduceSub, Array.replicate_succ, Array.replicate_zero, List.push_toArray, List.append_toArray, List.nil_append, List.cons_append]
  have e3 : (n3 : Int) % 20 = ((n3 % 20 : Nat) : Int) := by omega
  have hM : n3 % 20 < 20 := Nat.mod_lt _ (by omega)
  have E3 := Lib.hid e3
  clear e3
  have E1 := Lib.hid e1
  have E2 := Lib.hid e2
  clear e1 e2
  gi_wp2_with fail
  simp only [E1.out, E2.out]
  obtain ⟨f, hfe⟩ : ∃ f, n0 % 2147483648 = f := ⟨_, rfl⟩
  obtain ⟨L, hLe⟩ : ∃ L, len % 61 = L := ⟨_, rfl⟩
  simp only [hfe, hLe]
  rw [hfe] at hf E1
  rw [hLe] at hL E2
  obtain ⟨t, hT⟩ : ∃ t, t = f + L := ⟨_, rfl⟩
  have hTi : (f : Int) + (L : Int) = (t : Int) := by omega
  simp only [hTi]
  clear hfe hLe hTi
  generalize hw6 : ((((((w.alloc (Obj.cells #[Value.int IntKind.u32 ↑f] 22)).alloc (Obj.cells #[Value.int IntKind.u64 ↑bits] 23)).alloc (Obj.cells #[Value.int IntKind.u8 ↑n3] 5)).alloc (Obj.cells #[Value.int IntKind.u32 ↑f, Value.int IntKind.u32 ↑t] 25)).alloc (Obj.cells #[Value.slice none 0 0] 26)).alloc (Obj.cells #[Value.slice none 0 0] 26)) = w6
  have hS : Step [] w w6 := by rw [← hw6]; exact (((((Step.alloc _ _).trans (Step.alloc _ _)).trans (Step.alloc _ _)).trans (Step.alloc _ _)).trans (Step.alloc _ _)).trans (Step.alloc _ _)
  have hZ : w6.heap.size = w.heap.size + 6 := by rw [← hw6]; simp
  have g0 : Boxed w6 w.heap.size 22 (.int .u32 (f : Int)) := by rw [← hw6]; simp only [Boxed, heap_alloc_get, World.size_alloc]; repeat first | rfl | rw [if_pos (by omega)] | rw [if_neg (by omega)] | rw [if_pos trivial]
  have g1 : Boxed w6 (w.heap.size + 1) 23 (.int .u64 (bits : Int)) := by rw [← hw6]; simp only [Boxed, heap_alloc_get, World.size_alloc]; repeat first | rfl | rw [if_pos (by omega)] | rw [if_neg (by omega)] | rw [if_pos trivial]
  have g2 : Boxed w6 (w.heap.size + 1 + 1) 5 (.int .u8 (n3 : Int)) := by rw [← hw6]; simp only [Boxed, heap_alloc_get, World.size_alloc]; repeat first | rfl | rw [if_pos (by omega)] | rw [if_neg (by omega)] | rw [if_pos trivial]
  have g3 : w6.heap[w.heap.size + 1 + 1 + 1]? = some (spanObj f t) := by rw [← hw6]; simp only [spanObj, heap_alloc_get, World.size_alloc]; repeat first | rfl | rw [if_pos (by omega)] | rw [if_neg (by omega)] | rw [if_pos trivial]
  have g4 : Boxed w6 (w.heap.size + 1 + 1 + 1 + 1) 26 (.slice none 0 0) := by rw [← hw6]; simp only [Boxed, heap_alloc_get, World.size_alloc]; repeat first | rfl | rw [if_pos (by omega)] | rw [if_neg (by omega)] | rw [if_pos trivial]
  have g5 : Boxed w6 (w.heap.size + 1 + 1 + 1 + 1 + 1) 26 (.slice none 0 0) := by rw [← hw6]; simp only [Boxed, heap_alloc_get, World.size_alloc]; repeat first | rfl | rw [if_pos (by omega)] | rw [if_neg (by omega)] | rw [if_pos trivial]
  clear hw6
  refine (inW (missing_any _ _ _ _ _)).mono ?_
  rintro e w7 ⟨rfl, hw7⟩
  obtain ⟨hz7, hs7, k1, ksp, k2, k3⟩ := missing_blocks f t _ _ _ _ hw7
  have HS := Lib.hid (hS.trans hs7)
  replace g0 := boxed_step g0 hs7 (by simp)
  replace g1 := boxed_step g1 hs7 (by simp)
  replace g2 := boxed_step g2 hs7 (by simp)
  replace g3 := obj_step g3 hs7 (by simp)
  replace g4 := boxed_step g4 hs7 (by simp)
  replace g5 := boxed_step g5 hs7 (by simp)
  obtain ⟨n, hn⟩ : ∃ n, n = w6.heap.size := ⟨_, rfl⟩
  rw [← hn] at hz7 k1 ksp k2 k3 hZ ⊢
  clear hw7 hs7 hS hn
  have G0 := Lib.hid g0
  have G1 := Lib.hid g1
  have G2 := Lib.hid g2
  have G3 := Lib.hid g3
  have G4 := Lib.hid g4
  have G5 := Lib.hid g5
  have K1 := Lib.hid k1
  have KS := Lib.hid ksp
  have K2 := Lib.hid k2
  have K3 := Lib.hid k3
  clear g0 g1 g2 g3 g4 g5 k1 ksp k2 k3
  gi_wp2_with (gi_at_call 18; refine (inW (safe_any _ _ _)).mono ?_; rintro e w' ⟨rfl, rfl⟩)
  obtain ⟨many, hme⟩ : ∃ many, n3 % 20 = many := ⟨_, rfl⟩
  rw [hme] at hM E3
  clear hme
  subst hZ
  refine range_outer1S (v := fun s : List Nat × Nat => .int .u32 (s.2 : Int)) [] rfl enters107 (by simp) rfl rfl
    (AskedMid w7 (w.heap.size + 1 + 1 + 1 + 1) (w.heap.size + 1 + 1 + 1 + 1 + 1) bits f L many) (fun s => Going w7 (w.heap.size + 1 + 1 + 1 + 1) (w.heap.size + 1 + 1 + 1 + 1 + 1) bits f many (s.1 ++ [s.2]))
    (AskedStop w7 (w.heap.size + 1 + 1 + 1 + 1) (w.heap.size + 1 + 1 + 1 + 1 + 1) bits f L many) (Going w7 (w.heap.size + 1 + 1 + 1 + 1) (w.heap.size + 1 + 1 + 1 + 1 + 1) bits f many []) (Going w7 (w.heap.size + 1 + 1 + 1 + 1) (w.heap.size + 1 + 1 + 1 + 1 + 1) bits f many (List.range' f L))
    (mid_abide _ _ _ _ _ _ _) (fun s => going_abide _ _ _ _ _ _ _) (stop_abide _ _ _ _ _ _ _) (going_abide _ _ _ _ _ _ _) (going_abide _ _ _ _ _ _ _) ?h0
    (asked_gives w7 w.heap.size (w.heap.size + 1) _ _ (w.heap.size + 6) bits f t L many (by omega) (by omega) (by omega) hbits (by omega) (by omega) (by omega) (by omega) (by omega) (by omega) (by omega) (by omega) (by omega) (by omega) G0.out G1.out K1.out KS.out K2.out K3.out) ?body ?done ?stop
  case h0 => exact ⟨Step.refl _ _, ⟨_, _, G4.out, ownU_nil _ _, G5.out, ownU_nil _ _, by simp [Value.ownBlock]⟩, by simp⟩
  case body =>
    rintro l ⟨pre, x⟩ W hl _ ⟨hq, ha, hs, ⟨v4, v5, q1, q2, q3, q4, q5⟩, hm⟩
    obtain ⟨ys, hys⟩ : ∃ ys, ys = pre.filter (wanted bits f) := ⟨_, rfl⟩
    have hyx : (pre ++ [x]).filter (wanted bits f) = ys ++ [x] := by rw [hys]; simp [show wanted bits f x = true from hq]
    rw [← hys] at q4 hm
    obtain ⟨ao, cap, rfl⟩ := ownU_slice q4
    have hb5' := q3.cell
    have h2 := boxed_step G2.out hs (by simp)
    have hsz := hs.size
    have HB := Lib.hid q3
    have HV := Lib.hid q4
    have HB2 := Lib.hid h2
    have Q1 := Lib.hid q1
    have Q2 := Lib.hid q2
    have Q5 := Lib.hid q5
    have HSW := Lib.hid hs
    have HYX := Lib.hid hyx
    have HA := Lib.hid ha
    have HYS := Lib.hid hys
    clear q1 q2 q3 q4 q5 hs hyx ha hys h2
    simp [frame1]
    rcases Nat.lt_or_ge many (ys.length + 1) with hc | hc
    · have hcmp : ((n3 : Int) % 20 < (ys.length : Int) + 1) = True := by rw [E3.out]; simp; omega
      gi_wp2_with (gi_at_builtin; refine wpListIn_append_own_at _ rfl _ _ 26 rfl w7.heap.size 22 i0 (.int .u32 0) 1 4 Try.underlying26 hi hz0 hz1 hz2 rfl (by decide) _ _ _ rfl (HV.out.alloc _) ⟨W.heap.size, 0, none⟩ 1 1 [.int .u32 (x : Int)] rfl rfl (cell_one_new _ _ _) (by simp [Value.oneCell']) (by unfold maxLen; omega) (by omega) (by simp; omega) ?_; intro v' w2 hown' hgrow _ hat; obtain ⟨g', cap', rfl⟩ := ownsRow_succ hown'; obtain ⟨hv1, hv2, hr2, hs2, hat2⟩ := appended HB.out (by decide) rfl rfl HV.out hown' hgrow hat; have hc1 := hv1.cell; have hf1 := hv1.frozen; have k2 := (boxed_beside HB2.out HV.out (by omega) (by omega) hs2).cell; have k5 := hv2.cell; have HV2 := Lib.hid hv2; have HR2 := Lib.hid hr2; have HS2 := Lib.hid hs2; have HA2 := Lib.hid hat2; clear hv1 hv2 hr2 hs2 hat2 hown' hgrow hat)
      have hT : Turned w7.heap.size (w.heap.size + 1 + 1 + 1 + 1 + 1) (ys ++ [x]) (.slice ao ys.length cap) W (w2.setCell ⟨w.heap.size + 1 + 1 + 1 + 1 + 1, 0, none⟩ (.slice (some ⟨g', 0, none⟩) (ys.length + 1) cap')) := ⟨_, HV2.out, ownU_snoc HR2.out, HA2.out⟩
      have hTwo := Two.second Q1.out Q2.out HV.out Q5.out (by omega) (by omega) hT HS2.out (by omega)
      have hStep := step_two HSW.out (by simp) HV.out (Nat.le_refl _) HS2.out
      rw [← HYX.out] at hTwo
      exact ⟨HS2.out.book, rfl, HA.out, hStep, hTwo, by rw [← HYS.out]; exact hm, by rw [HYX.out]; simp; omega⟩
    · have hcmp : ((n3 : Int) % 20 < (ys.length : Int) + 1) = False := by rw [E3.out]; simp; omega
      gi_wp2_with (gi_at_builtin; refine wpListIn_append_own_at _ rfl _ _ 26 rfl w7.heap.size 22 i0 (.int .u32 0) 1 4 Try.underlying26 hi hz0 hz1 hz2 rfl (by decide) _ _ _ rfl (HV.out.alloc _) ⟨W.heap.size, 0, none⟩ 1 1 [.int .u32 (x : Int)] rfl rfl (cell_one_new _ _ _) (by simp [Value.oneCell']) (by unfold maxLen; omega) (by omega) (by simp; omega) ?_; intro v' w2 hown' hgrow _ hat; obtain ⟨g', cap', rfl⟩ := ownsRow_succ hown'; obtain ⟨hv1, hv2, hr2, hs2, hat2⟩ := appended HB.out (by decide) rfl rfl HV.out hown' hgrow hat; have hc1 := hv1.cell; have hf1 := hv1.frozen; have k2 := (boxed_beside HB2.out HV.out (by omega) (by omega) hs2).cell; have k5 := hv2.cell; have HV2 := Lib.hid hv2; have HR2 := Lib.hid hr2; have HS2 := Lib.hid hs2; have HA2 := Lib.hid hat2; clear hv1 hv2 hr2 hs2 hat2 hown' hgrow hat)
      have hT : Turned w7.heap.size (w.heap.size + 1 + 1 + 1 + 1 + 1) (ys ++ [x]) (.slice ao ys.length cap) W (w2.setCell ⟨w.heap.size + 1 + 1 + 1 + 1 + 1, 0, none⟩ (.slice (some ⟨g', 0, none⟩) (ys.length + 1) cap')) := ⟨_, HV2.out, ownU_snoc HR2.out, HA2.out⟩
      have hTwo := Two.second Q1.out Q2.out HV.out Q5.out (by omega) (by omega) hT HS2.out (by omega)
      have hStep := step_two HSW.out (by simp) HV.out (Nat.le_refl _) HS2.out
      rw [← HYX.out] at hTwo
      exact ⟨HS2.out.book, hStep, hTwo, by rw [HYX.out]; simp; omega⟩
  case done =>
    rintro D W hD ⟨hs, ⟨v4, v5, q1, q2, q3, q4, q5⟩, hm⟩ hd
    obtain ⟨K, hKS, hKe⟩ : ∃ K, StopAt bits f L many K ∧ K = L := ⟨L, stopAt_all hm, rfl⟩
    rw [← hKe] at q2 q4
    rw [show (List.range' f K).filter (wanted bits f) = wants bits f K from rfl] at q4
    clear hm hKe
    have h0 := (boxed_step G0.out hs (by simp <;> omega))
    have h1 := boxed_step G1.out hs (by simp <;> omega)
    have h2 := boxed_step G2.out hs (by simp <;> omega)
    have h3 := obj_step G3.out hs (by simp <;> omega)
    have c0 := h0.cell
    obtain ⟨ao4, cap4, rfl⟩ := ownU_slice q2
    obtain ⟨ao5, cap5, rfl⟩ := ownU_slice q4
    have HB0 := Lib.hid h0
    have HB1 := Lib.hid h1
    have HB2 := Lib.hid h2
    have HB3 := Lib.hid h3
    have Q1 := Lib.hid q1
    have Q2 := Lib.hid q2
    have Q3 := Lib.hid q3
    have Q4 := Lib.hid q4
    have HSW := Lib.hid hs
    have HD := Lib.hid hd
    have hsz := hs.size
    have HK := Lib.hid hKS
    have hKL := hKS.1
    clear q1 q2 q3 q4 q5 hs hd h0 h1 h2 h3 hKS
    gi_wp2_with fail
    gi_loopw [14, 15] (fun o n wr => ∃ k : Nat, k ≤ K ∧ n = .int .u32 ((f : Int) + (k : Int)) ∧ Hid (OwnU W.heap.size wr o (wants bits f k)) ∧ (wants bits f k).length ≤ many ∧ Hid (Step [] W wr)) (fun o n wr => t - (intOf n).toNat)
    case atStart => exact ⟨0, by omega, by simp, by simpa [Hid, wants_zero] using ownU_nil _ _, by simp [wants_zero], Step.refl _ _⟩
    case round =>
      obtain ⟨k, hk, rfl, ho, hlm, hst⟩ := hrel
      obtain ⟨ao, cap, rfl⟩ := ownU_slice ho.out
      have c0' := (boxed_step HB0.out hst.out (by simp)).cell
      have c1' := (boxed_step HB1.out hst.out (by simp)).cell
      have c2' := (boxed_step HB2.out hst.out (by simp)).cell
      have c3' := span_cell1 (obj_step HB3.out hst.out (by simp))
      clear c0
      have hsz2 := hst.out.size
      by_cases hlt : k < L
      · have hkK := HK.out.2.1 k hk hlt hlm
        have hlt2 : ((f : Int) + (k : Int) < (t : Int)) = True := by simp; omega
        cases hb : bitAt bits k with
        | true =>
          have hz := bit_zero bits k hbits
          rw [hb] at hz
          simp at hz
          have HW := Lib.hid (wants_no bits f k hb)
          clear hb
          gi_wp2_with fail
          exact ⟨⟨k + 1, by omega, by simp; omega, by rw [HW.out]; exact ho, by rw [HW.out]; exact hlm, hst⟩, by simp [intOf]; omega⟩
        | false =>
          have hz := bit_zero bits k hbits
          rw [hb] at hz
          simp at hz
          have hw1 := wants_yes bits f k hb
          have hstop := HK.out.2.2 k (by omega)
          have hlw : (wants bits f (k + 1)).length = (wants bits f k).length + 1 := by rw [hw1]; simp
          have HW := Lib.hid hw1
          clear hb hw1
          rcases Nat.lt_or_ge many ((wants bits f k).length + 1) with hc | hc
          · have hKe := hstop (by omega)
            have hcmp : ((n3 : Int) % 20 < ((wants bits f k).length : Int) + 1) = True := by rw [E3.out]; simp; omega
            subst hKe
            rw [hlw] at Q3 Q4
            rw [List.length_range'] at Q1 Q2
            have hne : ((k : Int) + 1 != (f : Int) + (k : Int) + 1 - (f : Int)) = false := by simp; omega
            have hne2 : ((k : Int) + 1 != (k : Int) + 1) = false := by simp
            have hne3 : ((L : Int) != (len : Int) % 61) = false := by rw [E2.out]; simp
            gi_wp2_with (gi_at_builtin; refine wpListIn_append_own_at _ rfl _ _ 26 rfl W.heap.size 22 i0 (.int .u32 0) 1 4 Try.underlying26 hi hz0 hz1 hz2 rfl (by decide) _ _ _ rfl (ho.out.alloc _) ⟨wr.heap.size, 0, none⟩ 1 1 [.int .u32 ((f : Int) + (k : Int))] rfl rfl (cell_one_new _ _ _) (by simp [Value.oneCell']) (by unfold maxLen; omega) (by omega) (by simp; omega) ?_; intro v' w2 hown' hgrow _ hat; obtain ⟨g', cap', rfl⟩ := ownsRow_succ hown'; have hst2 := appended_local hst.out (Nat.le_refl _) rfl ho.out hgrow; have k2 := (boxed_step HB2.out hst2 (by simp)).cell; have HST2 := Lib.hid hst2; have HO2 := Lib.hid hown'; have q1c := (boxed_step Q1.out hst2 (by simp)).cell; have q3c := (boxed_step Q3.out hst2 (by simp)).cell; have d0c := (boxed_step HB0.out hst2 (by simp)).cell; have d3a := span_cell0 (obj_step HB3.out hst2 (by simp)); have d3b := span_cell1 (obj_step HB3.out hst2 (by simp)); clear hst2 hown' hgrow hat)
            have hve : OwnU W.heap.size w2 (.slice (some ⟨g', 0, none⟩) ((wants bits f k).length + 1) cap') (wants bits f (k + 1)) := by rw [HW.out]; exact ownU_snoc_add HO2.out
            have HF := Lib.hid (isN_step (S := []) Q4.out.isN HST2.out)
            have HG := Lib.hid hve.isN
            clear hve
            refine (inW (equal_same _ _ _ _ HF.out HG.out)).mono ?_
            rintro e wa ⟨rfl, hsa⟩
            have HSA := Lib.hid (HST2.out.trans hsa)
            have q1a := step_cell hsa q1c
            have d0a := step_cell hsa d0c
            have d3x := step_cell hsa d3a
            have d3y := step_cell hsa d3b
            clear hsa q1c q3c d0c d3a d3b
            gi_wp2_with fail
            refine (inW (spanLenL _ _ f t (L : Int) rfl (by omega) (by omega) (by omega) (by omega) _)).mono ?_
            rintro e wb ⟨rfl, hsb⟩
            have HSB := Lib.hid (HSA.out.trans hsb)
            have q1b := step_cell hsb q1a
            clear hsb q1a d0a d3x d3y
            gi_wp2_with fail
            gi_loopw [93] (fun i wr2 => ∃ j : Nat, j ≤ k + 1 ∧ i = .int .i64 (j : Int) ∧ Hid (Step [] W wr2)) (fun i wr2 => k + 1 - (intOf i).toNat)
            case atStart => exact ⟨0, by omega, rfl, HSB⟩
            case round =>
              obtain ⟨j, hj, rfl, hst3⟩ := hrel
              clear q1b
              have x0 := (boxed_step HB0.out hst3.out (by simp)).cell
              have x3 := span_cell0 (obj_step HB3.out hst3.out (by simp))
              have x4 := span_cell1 (obj_step HB3.out hst3.out (by simp))
              by_cases hjl : j < k + 1
              · obtain ⟨bb, off, rfl, hc⟩ := isN_at (isN_step (S := []) Q2.out.isN hst3.out) (i := j) (by simp; omega)
                have hel : (List.range' f (k + 1))[j]?.getD 0 = f + j := by simp [hjl]
                rw [hel] at hc
                simp only [Int.natCast_add] at hc
                have hne4 : (((f : Int) + (j : Int)) != ((f : Int) + (j : Int))) = false := by simp
                gi_wp2_with (gi_at_call 22; refine (inW (spanHas_any _ _ _ true (by simp; omega) _)).mono ?_; rintro e wc ⟨rfl, hsc⟩; have HSC := Lib.hid (hst3.out.trans hsc); clear hsc)
                exact ⟨⟨j + 1, by omega, by simp, HSC.out⟩, by simp [intOf]; omega⟩
              · gi_wp2_with (first | (gi_at_call 22; refine (inW (spanHas_any _ _ _ false (by simp) _)).mono ?_; rintro e wc ⟨rfl, hsc⟩; have HSC := Lib.hid (hst3.out.trans hsc); clear hsc) | (gi_at_call 23; refine (inW (wakes_any _)).mono ?_; rintro e wd ⟨rfl, hsd⟩; have HSF := Lib.hid (HSC.out.trans hsd); clear hsd))
                refine leaves_marks (B := w.heap.size) (results_tmp rfl _ _) [D] _ (by simp; exact ⟨by omega, HSF.out.book _ _ HD.out rfl (by simp)⟩) (by simp) ?_
                intro w' hc
                exact ⟨rfl, ((HS.out.trans' HSW.out (fun _ h _ => h) (fun i hi hl => by simp at hi; omega)).trans HSF.out).calm hc (Nat.le_refl _)⟩
          · have hcmp : ((n3 : Int) % 20 < ((wants bits f k).length : Int) + 1) = False := by rw [E3.out]; simp; omega
            gi_wp2_with (gi_at_builtin; refine wpListIn_append_own_at _ rfl _ _ 26 rfl W.heap.size 22 i0 (.int .u32 0) 1 4 Try.underlying26 hi hz0 hz1 hz2 rfl (by decide) _ _ _ rfl (ho.out.alloc _) ⟨wr.heap.size, 0, none⟩ 1 1 [.int .u32 ((f : Int) + (k : Int))] rfl rfl (cell_one_new _ _ _) (by simp [Value.oneCell']) (by unfold maxLen; omega) (by omega) (by simp; omega) ?_; intro v' w2 hown' hgrow _ hat; obtain ⟨g', cap', rfl⟩ := ownsRow_succ hown'; have hst2 := appended_local hst.out (Nat.le_refl _) rfl ho.out hgrow; have k2 := (boxed_step HB2.out hst2 (by simp)).cell; have HST2 := Lib.hid hst2; have HO2 := Lib.hid hown'; clear hst2 hown' hgrow hat)
            exact ⟨⟨k + 1, by omega, by simp; omega, by rw [HW.out]; exact ownU_snoc_add HO2.out, by rw [hlw]; exact hc, HST2.out⟩, by simp [intOf]; omega⟩
      · obtain rfl : k = K := by omega
        have hlt2 : ((f : Int) + (k : Int) < (t : Int)) = False := by simp; omega
        have hk32 : ((k : Int) ≤ 4294967295) = True := by simp; omega
        have HVE := ho
        have HSE := hst
        rw [List.length_range'] at Q1
        have hne : ((k : Int) != (f : Int) + (k : Int) - (f : Int)) = false := by simp; omega
        have hne2 : ((k : Int) != (k : Int)) = false := by simp
        have hne3 : ((L : Int) != (len : Int) % 61) = false := by rw [E2.out]; simp
        have hfK : IsN .u32 wr (.slice ao5 (wants bits f k).length cap5) (wants bits f k) := isN_step (S := []) Q4.out.isN HSE.out
        have hgK : IsN .u32 wr (.slice ao (wants bits f k).length cap) (wants bits f k) := HVE.out.isN
        have HF := Lib.hid hfK
        have HG := Lib.hid hgK
        clear hfK hgK
        have q1c := (boxed_step Q1.out HSE.out (by simp)).cell
        have q3c := (boxed_step Q3.out HSE.out (by simp)).cell
        have d0c := (boxed_step HB0.out HSE.out (by simp)).cell
        have d3a := span_cell0 (obj_step HB3.out HSE.out (by simp))
        have d3b := span_cell1 (obj_step HB3.out HSE.out (by simp))
        gi_wp2_with fail
        refine (inW (equal_same _ _ _ _ HF.out HG.out)).mono ?_
        rintro e wa ⟨rfl, hsa⟩
        have HSA := Lib.hid (HSE.out.trans hsa)
        have q1a := step_cell hsa q1c
        have d0a := step_cell hsa d0c
        have d3x := step_cell hsa d3a
        have d3y := step_cell hsa d3b
        clear hsa q1c q3c d0c d3a d3b
        gi_wp2_with fail
        refine (inW (spanLenL _ _ f t (L : Int) rfl (by omega) (by omega) (by omega) (by omega) _)).mono ?_
        rintro e wb ⟨rfl, hsb⟩
        have HSB := Lib.hid (HSA.out.trans hsb)
        have q1b := step_cell hsb q1a
        clear hsb q1a d0a d3x d3y
        gi_wp2_with fail
        gi_loopw [93] (fun i wr2 => ∃ j : Nat, j ≤ k ∧ i = .int .i64 (j : Int) ∧ Hid (Step [] W wr2)) (fun i wr2 => k - (intOf i).toNat)
        case atStart => exact ⟨0, by omega, rfl, HSB⟩
        case round =>
          obtain ⟨j, hj, rfl, hst3⟩ := hrel
          clear q1b
          have x0 := (boxed_step HB0.out hst3.out (by simp)).cell
          have x3 := span_cell0 (obj_step HB3.out hst3.out (by simp))
          have x4 := span_cell1 (obj_step HB3.out hst3.out (by simp))
          by_cases hjl : j < k
          · obtain ⟨bb, off, rfl, hc⟩ := isN_at (isN_step (S := []) Q2.out.isN hst3.out) (i := j) (by simp; omega)
            have hel : (List.range' f k)[j]?.getD 0 = f + j := by simp [hjl]
            rw [hel] at hc
            simp only [Int.natCast_add] at hc
            have hne4 : (((f : Int) + (j : Int)) != ((f : Int) + (j : Int))) = false := by simp
            gi_wp2_with (gi_at_call 22; refine (inW (spanHas_any _ _ _ true (by simp; omega) _)).mono ?_; rintro e wc ⟨rfl, hsc⟩; have HSC := Lib.hid (hst3.out.trans hsc); clear hsc)
            exact ⟨⟨j + 1, by omega, by simp, HSC.out⟩, by simp [intOf]; omega⟩
          · gi_wp2_with (first | (gi_at_call 22; refine (inW (spanHas_any _ _ _ false (by simp) _)).mono ?_; rintro e wc ⟨rfl, hsc⟩; have HSC := Lib.hid (hst3.out.trans hsc); clear hsc) | (gi_at_call 23; refine (inW (wakes_any _)).mono ?_; rintro e wd ⟨rfl, hsd⟩; have HSF := Lib.hid (HSC.out.trans hsd); clear hsd))
            refine leaves_marks (B := w.heap.size) (results_tmp rfl _ _) [D] _ (by simp; exact ⟨by omega, HSF.out.book _ _ HD.out rfl (by simp)⟩) (by simp) ?_
            intro w' hc
            exact ⟨rfl, ((HS.out.trans' HSW.out (fun _ h _ => h) (fun i hi hl => by simp at hi; omega)).trans HSF.out).calm hc (Nat.le_refl _)⟩
  case stop =>
    rintro D c ⟨pre, x⟩ W hD ⟨rfl, ha, hs, ⟨v4, v5, q1, q2, q3, q4, q5⟩, hm, hm2⟩ hd
    obtain ⟨e1, e2, e3⟩ := prefix_range ha
    simp only at e1 e2 e3 q2 q4 hm hm2
    rw [e3] at q2 q4 hm2
    rw [e2] at hm
    obtain ⟨K, hKS, hKe⟩ : ∃ K, StopAt bits f L many K ∧ K = pre.length + 1 := ⟨_, stopAt_cut e1 hm hm2, rfl⟩
    rw [← hKe] at q2 q4
    rw [show (List.range' f K).filter (wanted bits f) = wants bits f K from rfl] at q4
    clear hm hm2 hKe ha e1 e2 e3
    have h0 := (boxed_step G0.out hs (by simp <;> omega))
    have h1 := boxed_step G1.out hs (by simp <;> omega)
    have h2 := boxed_step G2.out hs (by simp <;> omega)
    have h3 := obj_step G3.out hs (by simp <;> omega)
    have c0 := h0.cell
    obtain ⟨ao4, cap4, rfl⟩ := ownU_slice q2
    obtain ⟨ao5, cap5, rfl⟩ := ownU_slice q4
    have HB0 := Lib.hid h0
    have HB1 := Lib.hid h1
    have HB2 := Lib.hid h2
    have HB3 := Lib.hid h3
    have Q1 := Lib.hid q1
    have Q2 := Lib.hid q2
    have Q3 := Lib.hid q3
    have Q4 := Lib.hid q4
    have HSW := Lib.hid hs
    have HD := Lib.hid hd
    have hsz := hs.size
    have HK := Lib.hid hKS
    have hKL := hKS.1
    clear q1 q2 q3 q4 q5 hs hd h0 h1 h2 h3 hKS
    gi_wp2_with fail
    gi_loopw [14, 15] (fun o n wr => ∃ k : Nat, k ≤ K ∧ n = .int .u32 ((f : Int) + (k : Int)) ∧ Hid (OwnU W.heap.size wr o (wants bits f k)) ∧ (wants bits f k).length ≤ many ∧ Hid (Step [] W wr)) (fun o n wr => t - (intOf n).toNat)
    case atStart => exact ⟨0, by omega, by simp, by simpa [Hid, wants_zero] using ownU_nil _ _, by simp [wants_zero], Step.refl _ _⟩
    case round =>
      obtain ⟨k, hk, rfl, ho, hlm, hst⟩ := hrel
      obtain ⟨ao, cap, rfl⟩ := ownU_slice ho.out
      have c0' := (boxed_step HB0.out hst.out (by simp)).cell
      have c1' := (boxed_step HB1.out hst.out (by simp)).cell
      have c2' := (boxed_step HB2.out hst.out (by simp)).cell
      have c3' := span_cell1 (obj_step HB3.out hst.out (by simp))
      clear c0
      have hsz2 := hst.out.size
      by_cases hlt : k < L
      · have hkK := HK.out.2.1 k hk hlt hlm
        have hlt2 : ((f : Int) + (k : Int) < (t : Int)) = True := by simp; omega
        cases hb : bitAt bits k with
        | true =>
          have hz := bit_zero bits k hbits
          rw [hb] at hz
          simp at hz
          have HW := Lib.hid (wants_no bits f k hb)
          clear hb
          gi_wp2_with fail
          exact ⟨⟨k + 1, by omega, by simp; omega, by rw [HW.out]; exact ho, by rw [HW.out]; exact hlm, hst⟩, by simp [intOf]; omega⟩
        | false =>
          have hz := bit_zero bits k hbits
          rw [hb] at hz
          simp at hz
          have hw1 := wants_yes bits f k hb
          have hstop := HK.out.2.2 k (by omega)
          have hlw : (wants bits f (k + 1)).length = (wants bits f k).length + 1 := by rw [hw1]; simp
          have HW := Lib.hid hw1
          clear hb hw1
          rcases Nat.lt_or_ge many ((wants bits f k).length + 1) with hc | hc
          · have hKe := hstop (by omega)
            have hcmp : ((n3 : Int) % 20 < ((wants bits f k).length : Int) + 1) = True := by rw [E3.out]; simp; omega
            subst hKe
            rw [hlw] at Q3 Q4
            rw [List.length_range'] at Q1 Q2
            have hne : ((k : Int) + 1 != (f : Int) + (k : Int) + 1 - (f : Int)) = false := by simp; omega
            have hne2 : ((k : Int) + 1 != (k : Int) + 1) = false := by simp
            have hne3 : ((L : Int) != (len : Int) % 61) = false := by rw [E2.out]; simp
            gi_wp2_with (gi_at_builtin; refine wpListIn_append_own_at _ rfl _ _ 26 rfl W.heap.size 22 i0 (.int .u32 0) 1 4 Try.underlying26 hi hz0 hz1 hz2 rfl (by decide) _ _ _ rfl (ho.out.alloc _) ⟨wr.heap.size, 0, none⟩ 1 1 [.int .u32 ((f : Int) + (k : Int))] rfl rfl (cell_one_new _ _ _) (by simp [Value.oneCell']) (by unfold maxLen; omega) (by omega) (by simp; omega) ?_; intro v' w2 hown' hgrow _ hat; obtain ⟨g', cap', rfl⟩ := ownsRow_succ hown'; have hst2 := appended_local hst.out (Nat.le_refl _) rfl ho.out hgrow; have k2 := (boxed_step HB2.out hst2 (by simp)).cell; have HST2 := Lib.hid hst2; have HO2 := Lib.hid hown'; have q1c := (boxed_step Q1.out hst2 (by simp)).cell; have q3c := (boxed_step Q3.out hst2 (by simp)).cell; have d0c := (boxed_step HB0.out hst2 (by simp)).cell; have d3a := span_cell0 (obj_step HB3.out hst2 (by simp)); have d3b := span_cell1 (obj_step HB3.out hst2 (by simp)); clear hst2 hown' hgrow hat)
            have hve : OwnU W.heap.size w2 (.slice (some ⟨g', 0, none⟩) ((wants bits f k).length + 1) cap') (wants bits f (k + 1)) := by rw [HW.out]; exact ownU_snoc_add HO2.out
            have HF := Lib.hid (isN_step (S := []) Q4.out.isN HST2.out)
            have HG := Lib.hid hve.isN
            clear hve
            refine (inW (equal_same _ _ _ _ HF.out HG.out)).mono ?_
            rintro e wa ⟨rfl, hsa⟩
            have HSA := Lib.hid (HST2.out.trans hsa)
            have q1a := step_cell hsa q1c
            have d0a := step_cell hsa d0c
            have d3x := step_cell hsa d3a
            have d3y := step_cell hsa d3b
            clear hsa q1c q3c d0c d3a d3b
            gi_wp2_with fail
            refine (inW (spanLenL _ _ f t (L : Int) rfl (by omega) (by omega) (by omega) (by omega) _)).mono ?_
            rintro e wb ⟨rfl, hsb⟩
            have HSB := Lib.hid (HSA.out.trans hsb)
            have q1b := step_cell hsb q1a
            clear hsb q1a d0a d3x d3y
            gi_wp2_with fail
            gi_loopw [93] (fun i wr2 => ∃ j : Nat, j ≤ k + 1 ∧ i = .int .i64 (j : Int) ∧ Hid (Step [] W wr2)) (fun i wr2 => k + 1 - (intOf i).toNat)
            case atStart => exact ⟨0, by omega, rfl, HSB⟩
            case round =>
              obtain ⟨j, hj, rfl, hst3⟩ := hrel
              clear q1b
              have x0 := (boxed_step HB0.out hst3.out (by simp)).cell
              have x3 := span_cell0 (obj_step HB3.out hst3.out (by simp))
              have x4 := span_cell1 (obj_step HB3.out hst3.out (by simp))
              by_cases hjl : j < k + 1
              · obtain ⟨bb, off, rfl, hc⟩ := isN_at (isN_step (S := []) Q2.out.isN hst3.out) (i := j) (by simp; omega)
                have hel : (List.range' f (k + 1))[j]?.getD 0 = f + j := by simp [hjl]
                rw [hel] at hc
                simp only [Int.natCast_add] at hc
                have hne4 : (((f : Int) + (j : Int)) != ((f : Int) + (j : Int))) = false := by simp
                gi_wp2_with (gi_at_call 22; refine (inW (spanHas_any _ _ _ true (by simp; omega) _)).mono ?_; rintro e wc ⟨rfl, hsc⟩; have HSC := Lib.hid (hst3.out.trans hsc); clear hsc)
                exact ⟨⟨j + 1, by omega, by simp, HSC.out⟩, by simp [intOf]; omega⟩
              · gi_wp2_with (first | (gi_at_call 22; refine (inW (spanHas_any _ _ _ false (by simp) _)).mono ?_; rintro e wc ⟨rfl, hsc⟩; have HSC := Lib.hid (hst3.out.trans hsc); clear hsc) | (gi_at_call 23; refine (inW (wakes_any _)).mono ?_; rintro e wd ⟨rfl, hsd⟩; have HSF := Lib.hid (HSC.out.trans hsd); clear hsd))
                refine leaves_marks (B := w.heap.size) (results_tmp rfl _ _) [D] _ (by simp; exact ⟨by omega, HSF.out.book _ _ HD.out rfl (by simp)⟩) (by simp) ?_
                intro w' hc
                exact ⟨rfl, ((HS.out.trans' HSW.out (fun _ h _ => h) (fun i hi hl => by simp at hi; omega)).trans HSF.out).calm hc (Nat.le_refl _)⟩
          · have hcmp : ((n3 : Int) % 20 < ((wants bits f k).length : Int) + 1) = False := by rw [E3.out]; simp; omega
            gi_wp2_with (gi_at_builtin; refine wpListIn_append_own_at _ rfl _ _ 26 rfl W.heap.size 22 i0 (.int .u32 0) 1 4 Try.underlying26 hi hz0 hz1 hz2 rfl (by decide) _ _ _ rfl (ho.out.alloc _) ⟨wr.heap.size, 0, none⟩ 1 1 [.int .u32 ((f : Int) + (k : Int))] rfl rfl (cell_one_new _ _ _) (by simp [Value.oneCell']) (by unfold maxLen; omega) (by omega) (by simp; omega) ?_; intro v' w2 hown' hgrow _ hat; obtain ⟨g', cap', rfl⟩ := ownsRow_succ hown'; have hst2 := appended_local hst.out (Nat.le_refl _) rfl ho.out hgrow; have k2 := (boxed_step HB2.out hst2 (by simp)).cell; have HST2 := Lib.hid hst2; have HO2 := Lib.hid hown'; clear hst2 hown' hgrow hat)
            exact ⟨⟨k + 1, by omega, by simp; omega, by rw [HW.out]; exact ownU_snoc_add HO2.out, by rw [hlw]; exact hc, HST2.out⟩, by simp [intOf]; omega⟩
      · obtain rfl : k = K := by omega
        have hlt2 : ((f : Int) + (k : Int) < (t : Int)) = False := by simp; omega
        have hk32 : ((k : Int) ≤ 4294967295) = True := by simp; omega
        have HVE := ho
        have HSE := hst
        rw [List.length_range'] at Q1
        have hne : ((k : Int) != (f : Int) + (k : Int) - (f : Int)) = false := by simp; omega
        have hne2 : ((k : Int) != (k : Int)) = false := by simp
        have hne3 : ((L : Int) != (len : Int) % 61) = false := by rw [E2.out]; simp
        have hfK : IsN .u32 wr (.slice ao5 (wants bits f k).length cap5) (wants bits f k) := isN_step (S := []) Q4.out.isN HSE.out
        have hgK : IsN .u32 wr (.slice ao (wants bits f k).length cap) (wants bits f k) := HVE.out.isN
        have HF := Lib.hid hfK
        have HG := Lib.hid hgK
        clear hfK hgK
        have q1c := (boxed_step Q1.out HSE.out (by simp)).cell
        have q3c := (boxed_step Q3.out HSE.out (by simp)).cell
        have d0c := (boxed_step HB0.out HSE.out (by simp)).cell
        have d3a := span_cell0 (obj_step HB3.out HSE.out (by simp))
        have d3b := span_cell1 (obj_step HB3.out HSE.out (by simp))
        gi_wp2_with fail
        refine (inW (equal_same _ _ _ _ HF.out HG.out)).mono ?_
        rintro e wa ⟨rfl, hsa⟩
        have HSA := Lib.hid (HSE.out.trans hsa)
        have q1a := step_cell hsa q1c
        have d0a := step_cell hsa d0c
        have d3x := step_cell hsa d3a
        have d3y := step_cell hsa d3b
        clear hsa q1c q3c d0c d3a d3b
        gi_wp2_with fail
        refine (inW (spanLenL _ _ f t (L : Int) rfl (by omega) (by omega) (by omega) (by omega) _)).mono ?_
        rintro e wb ⟨rfl, hsb⟩
        have HSB := Lib.hid (HSA.out.trans hsb)
        have q1b := step_cell hsb q1a
        clear hsb q1a d0a d3x d3y
        gi_wp2_with fail
        gi_loopw [93] (fun i wr2 => ∃ j : Nat, j ≤ k ∧ i = .int .i64 (j : Int) ∧ Hid (Step [] W wr2)) (fun i wr2 => k - (intOf i).toNat)
        case atStart => exact ⟨0, by omega, rfl, HSB⟩
        case round =>
          obtain ⟨j, hj, rfl, hst3⟩ := hrel
          clear q1b
          have x0 := (boxed_step HB0.out hst3.out (by simp)).cell
          have x3 := span_cell0 (obj_step HB3.out hst3.out (by simp))
          have x4 := span_cell1 (obj_step HB3.out hst3.out (by simp))
          by_cases hjl : j < k
          · obtain ⟨bb, off, rfl, hc⟩ := isN_at (isN_step (S := []) Q2.out.isN hst3.out) (i := j) (by simp; omega)
            have hel : (List.range' f k)[j]?.getD 0 = f + j := by simp [hjl]
            rw [hel] at hc
            simp only [Int.natCast_add] at hc
            have hne4 : (((f : Int) + (j : Int)) != ((f : Int) + (j : Int))) = false := by simp
            gi_wp2_with (gi_at_call 22; refine (inW (spanHas_any _ _ _ true (by simp; omega) _)).mono ?_; rintro e wc ⟨rfl, hsc⟩; have HSC := Lib.hid (hst3.out.trans hsc); clear hsc)
            exact ⟨⟨j + 1, by omega, by simp, HSC.out⟩, by simp [intOf]; omega⟩
          · gi_wp2_with (first | (gi_at_call 22; refine (inW (spanHas_any _ _ _ false (by simp) _)).mono ?_; rintro e wc ⟨rfl, hsc⟩; have HSC := Lib.hid (hst3.out.trans hsc); clear hsc) | (gi_at_call 23; refine (inW (wakes_any _)).mono ?_; rintro e wd ⟨rfl, hsd⟩; have HSF := Lib.hid (HSC.out.trans hsd); clear hsd))
            refine leaves_marks (B := w.heap.size) (results_tmp rfl _ _) [D] _ (by simp; exact ⟨by omega, HSF.out.book _ _ HD.out rfl (by simp)⟩) (by simp) ?_
            intro w' hc
            exact ⟨rfl, ((HS.out.trans' HSW.out (fun _ h _ => h) (fun i hi hl => by simp at hi; omega)).trans HSF.out).calm hc (Nat.le_refl _)⟩
end Go.Proofs.Ytbainekfbonbjaa
