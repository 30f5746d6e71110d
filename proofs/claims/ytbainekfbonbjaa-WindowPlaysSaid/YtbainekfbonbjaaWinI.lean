/- window: tells: the chapter's row. No statement is proved here; nothing is assumed. -/
import Derived.Test.YtbainekfbonbjaaWinH
import Derived.Lib.SlBytesConst
namespace Go.Proofs.Ytbainekfbonbjaa
open Go.RowKit Go.Shelf
set_option linter.unusedVariables false
set_option linter.unusedSimpArgs false
attribute [local go_sem] Oper.semAt_some

theorem lit1_reads (w : World) (x : Nat) (fr : Nat × Nat) : Reads (w.alloc (.cells #[.int .u8 (x : Int)] 5 fr)) (.slice (some ⟨w.heap.size, 0, none⟩) 1 1) (u8s [x]) := by
  refine .inr ⟨w.heap.size, 0, 1, rfl, by simp [u8s], by simp [maxLen], fun j hj => ?_⟩
  have : j = 0 := by simp [u8s] at hj; omega
  subst this
  exact cells_cell (by rw [heap_alloc_get, if_pos rfl]) rfl
def litT : Obj := .cells #[.int .i64 5, .int .i64 15, .int .i64 35, .int .i64 65, .int .i64 95] 2
theorem litT_at : ∀ j, j < 5 → (#[.int .i64 5, .int .i64 15, .int .i64 35, .int .i64 65, .int .i64 95] : Array Value)[j]? = some (.int .i64 (atsT j : Int)) := by
  intro j hj
  match j with
  | 0 => rfl
  | 1 => rfl
  | 2 => rfl
  | 3 => rfl
  | 4 => rfl
  | j + 5 => omega
def TelAt (w : World) (b sp bm bl j : Nat) (W : World) : Prop := ∃ M, WinM w.heap.size W b sp bm 1 5 10 30 M (oneG [120] j (atsT j)) ∧ W.heap[bl]? = some litT ∧ Step [] w W
theorem low6 {w W W' : World} {bm : Nat} (h : Step [] w W) (hs : Step [bm] W W') (hb : w.heap.size ≤ bm) : Step [] w W' := h.trans' hs (fun _ h _ => h) (fun i hi hl => by simp at hi; omega)
set_option maxRecDepth 100000 in
set_option maxHeartbeats 4000000 in
theorem tells_any (w : World) : Calls Try.prog 45 #[] w fun e w' => e = .returned (.bool true) ∧ Step [] w w' := by
  go_enter Try.func45, Try.ntmps45
  go_wp2_with fail
  refine (new6_ok 5 10 30 (by omega) (by omega) w).mono ?_
  rintro e w1 ⟨b, sp, bm, rfl, hW, hs⟩
  have H1 := Lib.hid (And.intro hW hs)
  clear hW hs
  have cv := fun (X : World) (C : Array Value) (n c : Nat) => Lib.run_convert_bytes_const (P := Try.prog) X 71 5 C n c Try.underlying71 Try.underlying5
  go_wp2_with fail
  clear cv
  have hs1 : Step [] w1 (w1.alloc (.cells #[.int .u8 120] 5 (1, 2))) := Step.alloc _ _
  have HP := put6_ok (H1.out.1.same hs1) (by have := H1.out.2.size; have := hs1.size; omega) (some ⟨w1.heap.size, 0, none⟩) 1 5 [120] 1 rfl (by simp) (lit1_reads w1 120 (1, 2)) (by omega) (by simp) (by simp) (by omega)
  rw [one_set] at HP
  refine HP.mono ?_
  clear HP
  rintro e w2 ⟨rfl, M2, hW2, hl2, hs2⟩
  have hst2 : Step [] w w2 := (H1.out.2.trans hs1).trans' hs2 (fun _ h _ => h) (fun i hi hl => by have := hW2.lo; simp at hi; rcases hi with rfl | rfl <;> omega)
  have HL := len6_any _ _ _ _ _ _ _ _ _ _ _ hW2
  rw [one_len rfl hW2] at HL
  have HLL := Lib.hid HL
  have H2 := Lib.hid (And.intro hW2 hst2)
  clear hs1 hW2 hl2 hs2 hst2 HL
  go_wp2_with (first | (go_at_call 57; refine HLL.out.mono ?_; rintro e w' ⟨rfl, hw⟩; cases hw.symm))
  obtain ⟨bl, hbl⟩ : ∃ bl, bl = w2.heap.size := ⟨_, rfl⟩
  have o2 : (w2.alloc litT).heap[bl]? = some litT := by rw [hbl, heap_alloc_get, if_pos rfl]
  have h0 : TelAt w b sp bm bl 0 (w2.alloc litT) := ⟨M2, H2.out.1.same (Step.alloc _ _), o2, H2.out.2.trans (Step.alloc _ _)⟩
  have hc := fun (j : Nat) (hj : j < 5) => cells_cell o2 (litT_at j hj)
  have H0 := Lib.hid h0
  unfold litT at H0
  rw [← hbl]
  clear h0 o2 hc hbl HLL
  go_loopw [37] (fun i wr => ∃ j : Nat, j ≤ 5 ∧ i = .int .i64 (j : Int) ∧ Hid (TelAt w b sp bm bl j wr)) (fun i wr => 5 - (intOf i).toNat)
  case atStart => exact ⟨0, by omega, rfl, H0.out⟩
  case round =>
    clear H0
    obtain ⟨j, hj, rfl, hI⟩ := hrel
    by_cases hlt : j < 5
    · have hji : (j : Int) < 5 := by omega
      obtain ⟨M, hW, ho, hst⟩ := hI.out
      have hcj := cells_cell ho (litT_at j hlt)
      have hnx := ats_next j hlt
      have hsm := ats_small j
      have hps := ats_pos j hlt
      obtain ⟨x, hx⟩ : ∃ x, x = atsT j := ⟨_, rfl⟩
      rw [← hx] at hcj hW hnx hsm hps
      obtain ⟨y, hy⟩ : ∃ y, x = y + 1 := ⟨x - 1, by omega⟩
      have wy : IntKind.i64.wrap ((x : Int) - 1) = (y : Int) := by rw [IntKind.wrap_i64]; omega
      have hBw : w.heap.size ≤ wr.heap.size := hst.size
      have HA := Lib.hid (one_wakes hW)
      have HI := Lib.hid (And.intro hW (And.intro ho (And.intro hst (And.intro hnx (And.intro hx (And.intro hsm hy))))))
      clear hI hW ho hst hnx hx hsm hps hy
      go_wp2_with (go_at_call 55; refine HA.out.mono ?_; rintro e w3 ⟨rfl, hs3⟩; have H3 := Lib.hid hs3; clear hs3)
      clear HA
      have hD := one_due_no (HI.out.1.same H3.out) (by have := H3.out.size; omega) (by omega) y (by have := HI.out.2.2.2.2.2.1; have := HI.out.2.2.2.2.2.2; omega) (by have := HI.out.2.2.2.2.2.2; omega)
      refine hD.mono ?_
      clear hD
      rintro e w4 ⟨q4, c4, M4, rfl, hW4, hs4⟩
      have hst4 := low6 (HI.out.2.2.1.trans H3.out) hs4 hW4.lo.2.2
      have ho4 := obj_step (obj_step HI.out.2.1 H3.out (by simp)) hs4 (fun hm => by
        simp at hm
        obtain ⟨es, c, hb⟩ := (HI.out.1.same H3.out).m.block
        have h4 := obj_step HI.out.2.1 H3.out (by simp)
        rw [hm, hb] at h4; cases h4)
      have H4 := Lib.hid (And.intro hW4 (And.intro hst4 ho4))
      clear hW4 hs4 hst4 ho4
      go_wp2_with fail
      have hD := one_due_yes H4.out.1 H4.out.2.1.size (by omega) x (by have := HI.out.2.2.2.2.2.1; omega) (Nat.le_refl _)
      refine hD.mono ?_
      clear hD
      rintro e w5 ⟨q5, c5, M5, rfl, hc5, hcm5, _, hW5, hs5⟩
      have hst5 := low6 H4.out.2.1 hs5 hW5.lo.2.2
      have ho5 := obj_step H4.out.2.2 hs5 (fun hm => by
        simp at hm
        obtain ⟨es, c, hb⟩ := H4.out.1.m.block
        have h4 := H4.out.2.2
        rw [hm, hb] at h4; cases h4)
      rw [HI.out.2.2.2.1] at hW5
      have H5 := Lib.hid (show TelAt w b sp bm bl (j + 1) w5 from ⟨M5, hW5, ho5, hst5⟩)
      clear hW5 hs5 hst5 ho5 H4 H3 HI
      go_wp2_with fail
      go_roundw
      case rel => exact ⟨j + 1, by omega, by go_num, H5.out⟩
      case measure => simp [intOf]; omega
    · obtain rfl : j = 5 := by omega
      clear hlt
      go_wp2_with fail
      go_ret
      obtain ⟨M, _, _, hst⟩ := hI.out
      exact ⟨rfl, hst⟩
end Go.Proofs.Ytbainekfbonbjaa
