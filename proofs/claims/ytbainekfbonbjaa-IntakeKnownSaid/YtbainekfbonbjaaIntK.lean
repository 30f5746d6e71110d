/- IntakeKnown: its walk. No statement is proved here; nothing is assumed. -/
import Derived.Test.YtbainekfbonbjaaIntJ
import Derived.LoopTactic
namespace Go.Proofs.Ytbainekfbonbjaa
open Go.RowKit Go.Shelf
set_option linter.unusedVariables false
set_option linter.unusedSimpArgs false
attribute [local go_sem] Oper.semAt_some

theorem told7_nil (w : World) : Calls Try.prog 63 #[.pointer none] w fun e w' => e = .returned (.tuple #[.int .u32 0, .int .u32 0]) ∧ w = w' := by
  go_enter Try.func63, Try.ntmps63
  go_wp2_with (go_at_call 98; refine (none_nil _).mono ?_; rintro e w' ⟨rfl, hw⟩; cases hw.symm)
  go_ret2
  exact ⟨rfl, rfl⟩
theorem floor7_nil (w : World) : Calls Try.prog 64 #[.pointer none] w fun e w' => e = .returned (.int .u32 0) ∧ w = w' := by
  go_enter Try.func64, Try.ntmps64
  go_wp2_with (go_at_call 98; refine (none_nil _).mono ?_; rintro e w' ⟨rfl, hw⟩; cases hw.symm)
  go_ret
  exact ⟨rfl, rfl⟩
theorem bytes7_nil (w : World) : Calls Try.prog 66 #[.pointer none] w fun e w' => e = .returned (.int .i64 0) ∧ w = w' := by
  go_enter Try.func66, Try.ntmps66
  go_wp2_with (go_at_call 98; refine (none_nil _).mono ?_; rintro e w' ⟨rfl, hw⟩; cases hw.symm)
  go_ret
  exact ⟨rfl, rfl⟩
theorem waits7_zero (b F : Nat) (w : World) (h : IntObj w b F none) : Calls Try.prog 65 #[.pointer (some ⟨b, 0, none⟩)] w fun e w' => e = .returned (.int .i64 0) ∧ w = w' := by
  have HN := Lib.hid (none_any b F none w h)
  clear h
  go_enter Try.func65, Try.ntmps65
  go_wp2_with (go_at_call 98; refine HN.out.mono ?_; rintro e w' ⟨rfl, hw⟩; cases hw.symm)
  go_ret
  exact ⟨rfl, rfl⟩

/-- What is kept when 15 was taken and j numbers more, from 14 down. -/
def zeros : List Nat := List.replicate 256 0
def gK : Nat → Kept7
  | 0 => setK (fun _ => none) 15 (some zeros)
  | j + 1 => setK (gK j) (14 - j) (some [])
theorem gK_low : ∀ (j k : Nat), j ≤ 14 → k ≤ 14 - j → gK j k = none
  | 0, k, _, h => by unfold gK; rw [setK_other _ _ (by omega)]
  | j + 1, k, hj, h => by unfold gK; rw [setK_other _ _ (by omega)]; exact gK_low j k (by omega) (by omega)
theorem told_gK : toldM 0 (gK 14) = 32767 := by decide +kernel
def lastL : List (List Nat) := List.replicate 15 [] ++ [zeros]
theorem dr_gK : Drained 0 (setK (gK 14) 0 (some [])) lastL := by
  have h : ∀ j, j < 16 → setK (gK 14) 0 (some []) (0 + j) = lastL[j]? := by decide +kernel
  have h16 : setK (gK 14) 0 (some []) 16 = none := by decide +kernel
  have hl : lastL.length = 16 := by decide +kernel
  refine ⟨fun j p hp => ?_, by rw [hl]; exact h16⟩
  have hj := (List.getElem?_eq_some_iff.1 hp).1
  rw [hl] at hj
  rw [h j hj, hp]
theorem nil_reads (w : World) : Reads w (.slice none 0 0) (u8s []) := .inl ⟨none, 0, rfl, rfl, fun _ => rfl, by simp [maxLen]⟩
set_option maxRecDepth 100000 in
theorem made_zeros : (madeCells (Value.int .u8 0).cells (256 * 1)).toList = u8s zeros := by kernel_rfl
theorem make257 (w : World) : ∃ w', (Instr.makeSlice 71 (.int .i64 257) (.int .i64 257)).run Try.prog w = .ok (.slice (some ⟨w.heap.size, 0, none⟩) 257 257) w' ∧ Step [] w w' := by
  obtain ⟨i0, hi, hz0, hz1, hz2⟩ := info_parts info5
  obtain ⟨w', h1, _, h3⟩ := run_make_full (P := Try.prog) w w.heap.size 71 5 i0 _ 1 Try.underlying71 hi hz0 hz1 .i64 .i64 257 (by rw [hz2]; omega) (by simp [maxLen]) (Nat.le_refl _)
  exact ⟨w', h1, Step.ofGrown h3⟩
theorem make256 (w : World) : ∃ w', (Instr.makeSlice 71 (.int .i64 256) (.int .i64 256)).run Try.prog w = .ok (.slice (some ⟨w.heap.size, 0, none⟩) 256 256) w' ∧ Step [] w w' ∧ Reads w' (.slice (some ⟨w.heap.size, 0, none⟩) 256 256) (u8s zeros) := by
  obtain ⟨i0, hi, hz0, hz1, hz2⟩ := info_parts info5
  obtain ⟨w', h1, h2, h3⟩ := run_make_full (P := Try.prog) w w.heap.size 71 5 i0 _ 1 Try.underlying71 hi hz0 hz1 .i64 .i64 256 (by rw [hz2]; omega) (by simp [maxLen]) (Nat.le_refl _)
  rw [made_zeros] at h2
  exact ⟨w', h1, Step.ofGrown h3, (OwnAt.ofRow h2).reads⟩
theorem zeros_len : zeros.length = 256 := by decide +kernel
theorem zeros_lt : ∀ x ∈ zeros, x < 256 := fun x hx => by have := List.eq_of_mem_replicate hx; omega
theorem far_big : gK 0 4294967295 = none := setK_other _ _ (by decide)
theorem lastL_len : lastL.length = 16 := by decide +kernel
theorem lastL_15 : lastL[15]? = some zeros := by decide +kernel
/-- None of 14 numbers hands anything on. -/
theorem dr_low (j : Nat) (hj : j < 14) : Drained 0 (setK (gK j) (14 - j) (some [])) [] :=
  ⟨fun i p h => by simp at h, by rw [setK_other _ _ (by simp; omega)]; exact gK_low j 0 (by omega) (by omega)⟩
theorem dr_15 : Drained 0 (gK 0) [] := ⟨fun i p h => by simp at h, rfl⟩
theorem long_lit (B bi bm F : Nat) (M : Ents) (f : Kept7) (q : Option Addr) (len cap n : Nat) (N : Int) (w : World) (h : IntM B w bi bm F M f) (hN : N = n) (hl : 256 < len) : Calls Try.prog 62 #[.pointer (some ⟨bi, 0, none⟩), .int .u32 N, .slice q len cap] w fun e w' => e = .returned (.tuple #[.slice none 0 0, .int .i64 0, .int .i64 3]) ∧ w = w' := by
  subst hN; exact take_long B bi bm F M f q len cap n w h hl
theorem far_lit (B bi bm F : Nat) (M : Ents) (f : Kept7) (q : Option Addr) (len cap n : Nat) (N : Int) (w : World) (h : IntM B w bi bm F M f) (hN : N = n) (hl : len ≤ 256) (hn : n < 4294967296) (ha : F + 16 ≤ n) (hf : f n = none) : Calls Try.prog 62 #[.pointer (some ⟨bi, 0, none⟩), .int .u32 N, .slice q len cap] w fun e w' => e = .returned (.tuple #[.slice none 0 0, .int .i64 3, .int .i64 0]) ∧ w = w' := by
  subst hN; exact take_far B bi bm F M f q len cap n w h hl hn ha hf
set_option maxRecDepth 100000 in
set_option maxHeartbeats 8000000 in
theorem known7_walk (w : World) : Calls Try.prog 11 #[] w fun e w' => e = .returned (.bool true) ∧ Step [] w w' := by
  have hz : IntObj (w.alloc (.cells #[.int .u32 0, .map none] 101)) w.heap.size 0 none := by unfold IntObj; rw [heap_alloc_get, if_pos rfl]; rfl
  have HZ := Lib.hid hz
  have HS := Lib.hid (Step.alloc (S := []) w (.cells #[.int .u32 0, .map none] 101))
  clear hz
  go_enter Try.func11, Try.ntmps11
  go_wp2_with (first
    | (go_at_call 62; with_reducible refine (take_nil _ _ _).mono ?_; rintro e w' ⟨rfl, rfl⟩)
    | (go_at_call 62; with_reducible refine (take_zero _ 0 _ _ _ HZ.out).mono ?_; rintro e w' ⟨rfl, rfl⟩)
    | (go_at_call 63; refine (told7_nil _).mono ?_; rintro e w' ⟨rfl, rfl⟩)
    | (go_at_call 64; refine (floor7_nil _).mono ?_; rintro e w' ⟨rfl, rfl⟩)
    | (go_at_call 65; refine (waits7_zero _ 0 _ HZ.out).mono ?_; rintro e w' ⟨rfl, rfl⟩)
    | (go_at_call 66; refine (bytes7_nil _).mono ?_; rintro e w' ⟨rfl, rfl⟩)
    | (go_at_call 67; refine (copy7_zero _ 0 _ HZ.out).mono ?_; rintro e w' ⟨rfl, rfl⟩)
    | fail)
  obtain ⟨w0, hw0⟩ : ∃ w0, w0 = w.alloc (.cells #[.int .u32 0, .map none] 101) := ⟨_, rfl⟩
  rw [← hw0] at HS ⊢
  clear HZ hw0
  refine (new7_any w0).mono ?_
  rintro e w1 ⟨bi, bm, rfl, hI, hs⟩
  have H1 := Lib.hid (And.intro hI hs)
  clear hI hs
  obtain ⟨w2, hmk, hs2⟩ := make257 w1
  have H2 := Lib.hid (And.intro (H1.out.1.same hs2) (H1.out.2.trans hs2))
  clear H1 hs2
  go_wp2_with (first
    | (go_at_call 62; refine (long_lit _ _ _ _ _ _ _ _ _ 0 _ _ H2.out.1 rfl (by omega)).mono ?_; rintro e w' ⟨rfl, rfl⟩)
    | fail)
  clear hmk
  obtain ⟨w3, hmk, hs3, hr3⟩ := make256 w2
  have hz3 := H2.out.2.size
  have hz4 := hs3.size
  have HT := Lib.hid (take_lit w0.heap.size bi bm 0 [] (fun _ => none) (some ⟨w2.heap.size, 0, none⟩) 256 15 256 15 zeros [] w3 rfl zeros_len.symm (H2.out.1.same hs3) (by omega) (by rw [zeros_len]; omega) zeros_lt (by rw [zeros_len]; exact hr3) (by omega) (by simp only [List.length_nil]; omega) (by simp only [List.length_nil]; omega) (by omega) (by omega) rfl dr_15)
  have H3 := Lib.hid (H2.out.2.trans hs3)
  clear H2 hs3 hr3 hz3 hz4
  rw [hmk]
  simp only [Result.andThen]
  rw [Oper.upon_value]
  clear hmk
  go_wp2_with fail
  refine HT.out.mono ?_
  rintro e w4 ⟨v1, vals1, M1, rfl, g1, g2, g4, g5, g6, g7, g8⟩
  obtain ⟨q1, cap1, rfl, _, _⟩ := g1.form
  have H4 := Lib.hid (And.intro (show IntM w0.heap.size w4 bi bm 0 M1 (gK 0) from g4) (And.intro (show M1.length = 1 from g5) g8))
  clear HT g1 g2 g4 g5 g6 g7 g8
  go_wp2_with (first
    | (go_at_call 62; refine (far_lit _ _ _ _ _ _ _ _ _ 16 _ _ H4.out.1 (by omega) (by omega) (by omega) (by omega) (by rfl)).mono ?_; rintro e w' ⟨rfl, rfl⟩)
    | (go_at_call 62; refine (far_lit _ _ _ _ _ _ _ _ _ 4294967295 _ _ H4.out.1 (by omega) (by omega) (by omega) (by omega) far_big).mono ?_; rintro e w' ⟨rfl, rfl⟩)
    | fail)
  go_loopw [24] (fun i wr => ∃ j n : Nat, j + n = 14 ∧ i = .int .u32 (n : Int) ∧ Hid (∃ M, IntM w0.heap.size wr bi bm 0 M (gK j) ∧ M.length = 1 + j ∧ Step [bi, bm] w3 wr)) (fun i wr => (intOf i).toNat)
  case atStart => exact ⟨0, 14, rfl, rfl, M1, H4.out.1, H4.out.2.1, H4.out.2.2⟩
  case round =>
    obtain ⟨j, n, hjn, rfl, hI⟩ := hrel
    clear H4
    by_cases hn : n = 0
    · subst hn
      obtain rfl : j = 14 := by omega
      obtain ⟨M, hI1, hM, hst⟩ := hI.out
      have HX := Lib.hid (And.intro hI1 (And.intro hM hst))
      have HT := Lib.hid (told7_M w0.heap.size bi bm 0 (by omega) M (gK 14) wr hI1 32767 told_gK)
      clear hI1 hM hst hI hjn
      go_wp2_with fail
      refine HT.out.mono ?_
      rintro e w5 ⟨rfl, hs5⟩
      have h5 := HX.out.1.same hs5
      have H5 := Lib.hid (And.intro h5 hs5)
      have HC := Lib.hid (copy7_any w0.heap.size bi bm 0 M (gK 14) w5 h5)
      clear HT h5 hs5
      go_wp2_with fail
      refine HC.out.mono ?_
      rintro e w6 ⟨ci, cm, rfl, hc1, hc2, hc3, hs6⟩
      have h6 := H5.out.1.same hs6
      have hz3 := H3.out.size
      have hz4 := HX.out.2.2.size
      have hz5 := H5.out.2.size
      have hz6 := hs6.size
      have HT := Lib.hid (take_lit w0.heap.size bi bm 0 M (gK 14) none 0 0 0 0 [] lastL w6 rfl rfl h6 (by omega) (by simp) (by simp) (nil_reads w6) (by omega) (by have := HX.out.2.1; omega) (by have := HX.out.2.1; omega) (by omega) (by omega) (gK_low 14 0 (by omega) (by omega)) dr_gK)
      have H6 := Lib.hid (And.intro hc1 (And.intro hc2 (And.intro hc3 (And.intro h6 hs6))))
      clear hc1 hc2 hc3 hs6 h6 hz3 hz4 hz5 hz6
      go_wp2_with fail
      refine HT.out.mono ?_
      rintro e w7 ⟨v7, vals7, M7, rfl, g1, g2, g4, g5, g6, g7, g8⟩
      obtain ⟨q7, cap7, rfl, hcl7, hcm7⟩ := g1.form
      have hl7 : vals7.length = 16 := by rw [g2.1]; exact lastL_len
      obtain ⟨u, hu⟩ : ∃ u, vals7[15]? = some u := ⟨_, List.getElem?_eq_getElem (by omega)⟩
      have hpu := g2.2 15 u zeros hu lastL_15
      obtain ⟨gb, off, cc, hv, _, _, hc15⟩ := g1.at hu
      rw [hl7] at hv hcl7 ⊢
      injection hv with e1 e2 e3
      subst e1
      obtain ⟨uq, uc, hu2, huc1, huc2⟩ := hpu.1.form
      rw [u8s_length, zeros_len] at hu2
      subst hu2
      have hM7 : M7.length = 0 := by rw [lastL_len] at g5; have := HX.out.2.1; omega
      have hcm : IntM w0.heap.size w7 ci cm 0 M (gK 14) := by
        have hlo := H6.out.2
        have hb1 := heap_lt (show w5.heap[bi]? = _ from H5.out.1.o)
        have hb2 : bm < w5.heap.size := by obtain ⟨_, _, hh⟩ := H5.out.1.m.block; exact heap_lt hh
        exact H6.out.1.keepG g8 (by simp; omega) (by simp; omega) H6.out.2.2.2.1.apart
      rw [lastL_len] at g4
      have W1 := Lib.hid (waits7_any _ _ _ _ _ _ w7 g4)
      have W2 := Lib.hid (floor_any _ _ _ _ _ _ w7 g4)
      have W3 := Lib.hid (waits7_any _ _ _ _ _ _ w7 hcm)
      have W4 := Lib.hid (floor_any _ _ _ _ _ _ w7 hcm)
      rw [hM7] at W1
      rw [HX.out.2.1] at W3
      have HS7 := Lib.hid (show Step [] w w7 by
        have hlo := g4.lo
        have h1 : Step [bi, bm] w3 w7 := HX.out.2.2.trans ((H5.out.2.trans H6.out.2.2.2.2).nil_mono.trans g8)
        exact HS.out.trans (H3.out.trans' h1 (fun _ h _ => h) (fun i hi hlt => by simp at hi; omega)))
      have V1 := Lib.hid (show Calls Try.prog 65 #[.pointer (some ⟨bi, 0, none⟩)] w7 fun e w' => e = .returned (.int .i64 0) ∧ w7 = w' from W1.out.mono fun e w' h => ⟨h.1, h.2.symm⟩)
      have V2 := Lib.hid (show Calls Try.prog 64 #[.pointer (some ⟨bi, 0, none⟩)] w7 fun e w' => e = .returned (.int .u32 16) ∧ w7 = w' from W2.out.mono fun e w' h => ⟨h.1, h.2.symm⟩)
      have V3 := Lib.hid (show Calls Try.prog 65 #[.pointer (some ⟨ci, 0, none⟩)] w7 fun e w' => e = .returned (.int .i64 15) ∧ w7 = w' from W3.out.mono fun e w' h => ⟨h.1, h.2.symm⟩)
      have V4 := Lib.hid (show Calls Try.prog 64 #[.pointer (some ⟨ci, 0, none⟩)] w7 fun e w' => e = .returned (.int .u32 0) ∧ w7 = w' from W4.out.mono fun e w' h => ⟨h.1, h.2.symm⟩)
      clear HT g1 g2 g4 g5 g6 g7 g8 hpu hu hM7 hcm hl7 H6 H5 HX HC huc1 W1 W2 W3 W4
      go_wp2_with (first
        | (go_at_call 65; with_reducible refine V1.out.mono ?_; rintro e w' ⟨rfl, rfl⟩)
        | (go_at_call 65; with_reducible refine V3.out.mono ?_; rintro e w' ⟨rfl, rfl⟩)
        | (go_at_call 64; with_reducible refine V2.out.mono ?_; rintro e w' ⟨rfl, rfl⟩)
        | (go_at_call 64; with_reducible refine V4.out.mono ?_; rintro e w' ⟨rfl, rfl⟩)
        | (go_at_call 69; refine (wakes7_any _).mono ?_; rintro e w' ⟨rfl, hs8⟩; have HS8 := Lib.hid hs8; clear hs8)
        | fail)
      go_ret
      exact ⟨rfl, HS7.out.trans HS8.out⟩
    · have hnj : n = 14 - j := by omega
      have t1 : ((0 : Int) < (n : Int)) = True := by simp; omega
      have t1b : (0 < n) = True := by simp; omega
      obtain ⟨nn, hnn⟩ : ∃ nn : Int, nn = ((n - 1 : Nat) : Int) := ⟨_, rfl⟩
      have hwr : IntKind.u32.wrap ((n : Int) - 1) = nn := by rw [hnn, IntKind.wrap_u32]; omega
      have HNN := Lib.hid hnn
      obtain ⟨M, hI1, hM, hst⟩ := hI.out
      have hz3 := H3.out.size
      have hz4 := hst.size
      have HT := Lib.hid (take_lit w0.heap.size bi bm 0 M (gK j) none 0 n 0 (n : Int) [] [] wr rfl rfl hI1 (by omega) (by simp) (by simp) (nil_reads wr) (by omega) (by omega) (by omega) (by omega) (by omega) (gK_low j n (by omega) (by omega)) (by rw [hnj]; exact dr_low j (by omega)))
      have HJ := Lib.hid (And.intro hM (And.intro hst hjn))
      clear hI1 hM hst hz3 hz4 hI hjn hnn hnj
      go_wp2_with (first | (go_at_call 62; refine HT.out.mono ?_; rintro e w5 ⟨v2, vals2, M2, rfl, g1, g2, g4, g5, g6, g7, g8⟩; have H5 := Lib.hid (And.intro g4 (And.intro g5 g8)); clear g1 g2 g4 g5 g6 g7 g8) | fail)
      go_roundw
      case rel =>
        refine ⟨j + 1, n - 1, by have := HJ.out.2.2; omega, by rw [HNN.out], M2, ?_, by have h1 := H5.out.2.1; simp only [List.length_nil] at h1; have := HJ.out.1; omega, HJ.out.2.1.trans H5.out.2.2⟩
        have h1 := H5.out.1
        have h2 : n = 14 - j := by have := HJ.out.2.2; omega
        rw [h2] at h1
        exact h1
      case measure =>
        rw [HNN.out]
        simp [intOf]
        omega
end Go.Proofs.Ytbainekfbonbjaa
