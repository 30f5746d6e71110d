import Derived.Test.YtbainekfbonbjaaSeqN
import Derived.OwnWalkIn
import Derived.TacticsInMore
import Derived.LoopNIn
import Derived.LoopIn
import Derived.Deep.QuietTactic
import Derived.BigQuiet
import Derived.Maps.OwnIn
import Derived.Deep.RegionHeld3
namespace Go.Proofs.Ytbainekfbonbjaa
open Go.RowKit Go.Shelf
set_option linter.unusedVariables false
attribute [local go_sem] Oper.semAt_some

set_option maxRecDepth 100000 in
set_option maxHeartbeats 4000000 in
theorem spans_walk1 (f t ack mask : Nat) (hf : f < 4294967296) (ht : t < 4294967296) (ha : ack < 4294967296) (hm : mask < 4294967296) (p : Option Addr) (n cap : Nat) (xs : List Nat) (w : World) (hd : (t : Int) - (f : Int) < 0) (hn : (30 : Int) < (n : Int)) (h : IsN .u32 w (.slice p n cap) xs) :
    Calls Try.prog 4 #[.agg #[.int .u32 (f : Int), .int .u32 (t : Int)], .slice p n cap, .agg #[.int .u32 (ack : Int), .int .u32 (mask : Int)]] w fun e w' => e = .returned (.bool true) ∧ Step [] w w' := by
  have hnc : n ≤ cap := by obtain ⟨p', c', he, h1, h2, hc⟩ := h; cases he; exact h1
  have hcm : cap ≤ maxLen := by obtain ⟨p', c', he, h1, h2, hc⟩ := h; cases he; exact h2
  unfold maxLen at hcm
  have H := Lib.hid h
  clear h
  go_enter Try.func4, Try.ntmps4
  go_wp2_with fail
  generalize hw3 : (((w.alloc (Obj.cells #[Value.int IntKind.u32 ↑f, Value.int IntKind.u32 ↑t] 25)).alloc (Obj.cells #[Value.slice p 30 cap] 26)).alloc (Obj.cells #[Value.int IntKind.u32 ↑ack, Value.int IntKind.u32 ↑mask] 35)) = w3
  have hS : Step [] w w3 := by rw [← hw3]; exact ((Step.alloc _ _).trans (Step.alloc _ _)).trans (Step.alloc _ _)
  have hZ : w.heap.size + 3 ≤ w3.heap.size := by rw [← hw3]; simp
  have g0 : w3.heap[w.heap.size]? = some (spanObj f t) := by rw [← hw3]; simp only [heap_alloc_get, World.size_alloc, spanObj]; repeat first | rfl | rw [if_pos (by omega)] | rw [if_neg (by omega)] | rw [if_pos trivial]
  have g1 : Boxed w3 (w.heap.size + 1) 26 (.slice p 30 cap) := by rw [← hw3]; simp only [Boxed, heap_alloc_get, World.size_alloc]; repeat first | rfl | rw [if_pos (by omega)] | rw [if_neg (by omega)] | rw [if_pos trivial]
  have g2 : w3.heap[w.heap.size + 1 + 1]? = some (.cells #[.int .u32 (ack : Int), .int .u32 (mask : Int)] 35) := by rw [← hw3]; simp only [heap_alloc_get, World.size_alloc]; repeat first | rfl | rw [if_pos (by omega)] | rw [if_neg (by omega)] | rw [if_pos trivial]
  have G1 := Lib.hid g1
  obtain ⟨ys, hys⟩ : ∃ ys, ys = xs.take 30 := ⟨_, rfl⟩
  have hlx : xs.length = n := by obtain ⟨p', c', he, h1, h2, hc⟩ := H.out; cases he; rfl
  have hly : ys.length = 30 := by rw [hys, List.length_take]; omega
  have h3 : IsN .u32 w3 (.slice p 30 cap) ys := by rw [hys]; exact isN_take (isN_step (S := []) H.out hS) 30 (by omega)
  have H3 := Lib.hid h3
  have HSW := Lib.hid hS
  have c0 := span_cell0 g0
  have c1 := span_cell1 g0
  have c2 := g1.cell
  have d0 : w3.cell? ⟨w.heap.size + 1 + 1, 0, none⟩ = some (.int .u32 (ack : Int)) := by simp [World.cell?, g2]
  have d1 : w3.cell? ⟨w.heap.size + 1 + 1, 1, none⟩ = some (.int .u32 (mask : Int)) := by simp [World.cell?, g2]
  have D0 := Lib.hid d0
  have D1 := Lib.hid d1
  have C0 := Lib.hid c0
  have C1 := Lib.hid c1
  have C2 := Lib.hid c2
  clear hw3 g0 g1 g2 d0 d1 hys hlx h3 hS
  go_region_held3 (fun W => W.cell? ⟨w.heap.size, 0, none⟩ = some (.int .u32 (f : Int)) ∧ W.cell? ⟨w.heap.size, 1, none⟩ = some (.int .u32 (t : Int)) ∧ W.cell? ⟨w.heap.size + 1, 0, none⟩ = some (.slice p 30 cap) ∧ Step [] w3 W)
    (first | exact keep0 c0 c1 c2 | exact step_keep ‹_› ‹_›)
    (first
      | (go_at_call 21; refine (spanLenL _ _ f t 0 rfl rfl (by omega) hf ht _).mono ?_; rintro e w' ⟨rfl, hs⟩)
      | (go_at_call 19; refine (missing_any _ _ _ _ _).mono ?_; rintro e w' ⟨rfl, hw1⟩; have hs := (missing_blocks _ _ _ _ _ _ hw1).2.1; have HWm := Lib.hid hw1; clear hw1)
      | (go_at_call 26; have hwm := HWm.out; clear HWm; refine (firstMissing50 f t hf ht _ _ ys _ _ (hRs_of (w3 := w3) (by assumption) G1.out H3.out) hwm).mono ?_; clear hwm; rintro e w' ⟨ao1, k1, cap1, rfl, hv1, hs⟩; have HV1m := Lib.hid hv1; clear hv1)
      | (go_at_call 27; have hv1m := HV1m.out; clear HV1m; refine (refMissing50 f t _ ys _ hf ht (isN_of (w3 := w3) (by assumption) H3.out)).mono ?_; rintro e w' ⟨ao2, k2, cap2, rfl, hv2, hs⟩; have HV2m := Lib.hid hv2; have HV3m := Lib.hid (isN_step (S := []) hv1m hs); clear hv2 hv1m)
      | (go_at_call 20; have hv2m := HV2m.out; have hv3m := HV3m.out; clear HV2m HV3m; refine (equal_same _ _ _ _ hv3m hv2m).mono ?_; clear hv2m hv3m; rintro e w' ⟨rfl, hs⟩)
      | (go_at_call 28; refine (all_any _ _ _).mono ?_; rintro e w' ⟨rfl, hw1⟩; have hs := step_of_alloc hw1; have HWa := Lib.hid hw1; clear hw1)
      | (go_at_call 26; have hwa := HWa.out; clear HWa; refine (firstAll50 f t hf ht _ _ hwa).mono ?_; clear hwa; rintro e w' ⟨ao1, k1, cap1, rfl, hv1, hs⟩; have HV1a := Lib.hid hv1; clear hv1)
      | (go_at_call 27; have hv1a := HV1a.out; clear HV1a; refine (refMissing50 f t _ [] _ hf ht (ownU_nil 0 _).isN).mono ?_; rintro e w' ⟨ao2, k2, cap2, rfl, hv2, hs⟩; have HV2a := Lib.hid hv2; have HV3a := Lib.hid (isN_step (S := []) hv1a hs); clear hv2 hv1a)
      | (go_at_call 20; have hv2a := HV2a.out; have hv3a := HV3a.out; clear HV2a HV3a; refine (equal_same _ _ _ _ hv3a hv2a).mono ?_; clear hv2a hv3a; rintro e w' ⟨rfl, hs⟩))
  rename_i hHeld
  have HS4 := Lib.hid hHeld.2.2.2
  have c4 := hHeld.2.2.1
  clear hHeld c0 c1 c2
  obtain ⟨w4, hw4⟩ : ∃ w4, w4 = w' := ⟨_, rfl⟩
  rw [← hw4] at c4 HS4 ⊢
  clear hw4
  go_wp2_with fail
  go_loopw [57] (fun i wr => ∃ k : Nat, k ≤ 30 ∧ i = .int .i64 (k : Int) ∧ Hid (Step [] w3 wr)) (fun i wr => 30 - (intOf i).toNat)
  case atStart => exact ⟨0, by omega, rfl, HS4⟩
  case round =>
    obtain ⟨k, hk, rfl, hst⟩ := hrel
    by_cases hlt : k < 30
    · obtain ⟨b, off, rfl, hc⟩ := isN_at (isN_step (S := []) H3.out hst.out) (i := k) (by omega)
      obtain ⟨x, hx⟩ : ∃ x, ys[k]?.getD 0 = x := ⟨_, rfl⟩
      rw [hx] at hc
      have c0 := step_cell hst.out C0.out
      have c1 := step_cell hst.out C1.out
      have c2 := step_cell hst.out C2.out
      rcases Decidable.em (f ≤ x) with h1 | h1
      · have e1 : ((f : Int) ≤ (x : Int)) = True := by simp; omega
        have e1d : decide ((f : Int) ≤ (x : Int)) = true := by simp; omega
        rcases Decidable.em (x < t) with h2 | h2
        · exfalso; omega
        · have e2 : ((x : Int) < (t : Int)) = False := by simp; omega
          have e2d : decide ((x : Int) < (t : Int)) = false := by simp; omega
          have eb : (decide ((f : Int) ≤ (x : Int)) && decide ((x : Int) < (t : Int))) = false := by rw [e1d, e2d]; rfl
          have EB := Lib.hid eb
          clear eb
          go_wp2_with fail
          first | (go_region_held3 (fun W => W.cell? ⟨w.heap.size, 0, none⟩ = some (.int .u32 (f : Int)) ∧ W.cell? ⟨w.heap.size, 1, none⟩ = some (.int .u32 (t : Int)) ∧ W.cell? ⟨w.heap.size + 1, 0, none⟩ = some (.slice (some ⟨b, off, none⟩) 30 cap) ∧ Step [] wr W)
            (first | exact keep0 c0 c1 c2 | exact step_keep ‹_› ‹_›)
            (first
              | (go_at_call 22; refine (spanHas_any _ _ _ _ EB.out _).mono ?_; rintro e w' ⟨rfl, hs⟩))) | fail
          rename_i hHeld
          have HS5 := Lib.hid hHeld.2.2.2
          clear hHeld
          go_wp2
          go_roundw
          case rel => exact ⟨k + 1, by omega, by go_num, hst.out.trans HS5.out⟩
          case measure => simp [intOf] <;> omega
      · have e1 : ((f : Int) ≤ (x : Int)) = False := by simp; omega
        have e1d : decide ((f : Int) ≤ (x : Int)) = false := by simp; omega
        have e3 : ((x : Int) < (f : Int)) = True := by simp; omega
        have e3d : decide ((x : Int) < (f : Int)) = true := by simp; omega
        have eb : (decide ((f : Int) ≤ (x : Int)) && decide ((x : Int) < (t : Int))) = false := by rw [e1d]; rfl
        have EB := Lib.hid eb
        clear eb
        go_wp2_with fail
        first | (go_region_with ((go_at_call 22; refine (spanHas_any _ _ _ _ EB.out _).mono ?_; rintro e w' ⟨rfl, hs⟩; have k0 := step_cell hs c0; have k1 := step_cell hs c1))) | fail
        all_goals
          have HS5 := Lib.hid hs
          clear hs
          go_wp2
          go_roundw
          case rel => exact ⟨k + 1, by omega, by go_num, hst.out.trans ((Step.drewN wr 1).trans HS5.out)⟩
          case measure => simp [intOf] <;> omega
    · have c2 := step_cell hst.out C2.out
      have d0 := step_cell hst.out D0.out
      have d1 := step_cell hst.out D1.out
      obtain rfl : k = 30 := by omega
      have g1 := boxed_step G1.out hst.out (by simp)
      have h3 := isN_step (S := []) H3.out hst.out
      have G1r := Lib.hid g1
      have H3r := Lib.hid h3
      clear g1 h3 H HS4 hlt
      go_wp2_with fail
      go_region_held3 (fun W => W.cell? ⟨w.heap.size + 1 + 1, 0, none⟩ = some (.int .u32 (ack : Int)) ∧ W.cell? ⟨w.heap.size + 1 + 1, 1, none⟩ = some (.int .u32 (mask : Int)) ∧ W.cell? ⟨w.heap.size + 1, 0, none⟩ = some (.slice p 30 cap) ∧ Step [] wr W)
        (first | exact keep0 d0 d1 c2 | exact step_keep ‹_› ‹_›)
        (first
          | (go_at_call 29; refine (told_any _ _ _).mono ?_; rintro e w' ⟨rfl, hw1⟩; have hs := (told_blocks _ _ _ _ hw1).2.1; have HWt := Lib.hid hw1; clear hw1)
          | (go_at_call 26; have hwt := HWt.out; clear HWt; refine (firstTold40 ack mask ha hm _ _ hwt).mono ?_; clear hwt; rintro e w' ⟨ao1, k1, cap1, rfl, hv1, hs⟩; have HV1 := Lib.hid hv1; clear hv1)
          | (go_at_call 30; refine (refTold' ack mask _ ha hm).mono ?_; rintro e w' ⟨ao2, k2, cap2, rfl, hv2, hs⟩; have HV2 := Lib.hid hv2; have HV3 := Lib.hid (isN_step (S := []) HV1.out hs); clear hv2)
          | (go_at_call 20; refine (equal_same _ _ _ _ HV3.out HV2.out).mono ?_; rintro e w' ⟨rfl, hs⟩)
          | (go_at_call 31; refine (mask24 ack ha _ _ ys _ (hRs_of (w3 := wr) (by assumption) G1r.out H3r.out)).mono ?_; rintro e w' ⟨rfl, hs⟩)
          | (go_at_call 32; refine (refMask' ack _ ys _ ha (isN_of (w3 := wr) (by assumption) H3r.out)).mono ?_; rintro e w' ⟨rfl, hs⟩)
          | (go_at_call 23; refine (wakes_any _).mono ?_; rintro e w' ⟨rfl, hs⟩))
      rename_i hHeld
      have HS9 := Lib.hid hHeld.2.2.2
      clear hHeld
      go_wp2_with fail
      go_ret
      exact ⟨rfl, (HSW.out.trans hst.out).trans HS9.out⟩
end Go.Proofs.Ytbainekfbonbjaa
