/- WindowWaits: its walk. No statement is proved here; nothing is assumed. -/
import Derived.Test.YtbainekfbonbjaaWinI
import Derived.Deep.CutRange
namespace Go.Proofs.Ytbainekfbonbjaa
open Go.RowKit Go.Shelf
set_option linter.unusedVariables false
set_option linter.unusedSimpArgs false
attribute [local go_sem] Oper.semAt_some

/-- The wait that the statement reckons with. -/
def wtN (a z : Nat) : Nat → Nat
  | 0 => a
  | k + 1 => min (2 * wtN a z k) z
theorem dbl_back (z : Nat) : ∀ (k o : Nat), dbl z (k + 1) o = if dbl z k o < z then 2 * dbl z k o else dbl z k o
  | 0, o => by
    show (if o < z then dbl z 0 (2 * o) else o) = if o < z then 2 * o else o
    rfl
  | k + 1, o => by
    conv => lhs; unfold dbl
    by_cases h : o < z
    · rw [if_pos h, dbl_back z k (2 * o)]
      have e : dbl z (k + 1) o = dbl z k (2 * o) := by conv => lhs; unfold dbl
                                                       rw [if_pos h]
      rw [e]
    · rw [if_neg h]
      have e : dbl z (k + 1) o = o := by conv => lhs; unfold dbl
                                         rw [if_neg h]
      rw [e, if_neg h]
theorem wt_eq {a z : Nat} (h : a ≤ z) (k : Nat) : wtN a z k = waitN a z (k + 1) := by
  unfold waitN
  rw [Nat.add_sub_cancel]
  induction k with
  | zero => simp [wtN, dbl]; omega
  | succ k ih =>
    rw [dbl_back]
    unfold wtN
    rw [ih]
    split <;> omega
theorem str112 : strN [112] = { data := #[112] } := rfl
/-- What the rounds of WindowWaits keep. -/
def WtsAt (w : World) (b sp bm a z k nw : Nat) (W : World) : Prop := ∃ M, WinM w.heap.size W b sp bm 1 3 a z M (oneG [112] k nw) ∧ Step [] w W
set_option maxRecDepth 100000 in
set_option maxHeartbeats 8000000 in
theorem waits_walk (x y s : Nat) (hx : x < 65536) (hy : y < 65536) (hs : s < 4294967296) (w : World) :
    Calls Try.prog 15 #[.int .u16 (x : Int), .int .u16 (y : Int), .int .u32 (s : Int)] w fun e w' => e = .returned (.bool true) ∧ Step [] w w' := by
  obtain ⟨x1, hx1⟩ : ∃ x1, x1 = x % 1000 := ⟨_, rfl⟩
  have d1 : (x : Int) % 1000 = (x1 : Int) := by omega
  have d2 : (x : Int).tmod 1000 = (x1 : Int) := by rw [Int.tmod_eq_emod_of_nonneg (by omega)]; exact d1
  obtain ⟨s1, hs1⟩ : ∃ s1, s1 = s % 1073741824 := ⟨_, rfl⟩
  have d3 : (s : Int) % 1073741824 = (s1 : Int) := by omega
  have d4 : (s : Int).tmod 1073741824 = (s1 : Int) := by rw [Int.tmod_eq_emod_of_nonneg (by omega)]; exact d3
  have c1 : (x1 : Int) < 1000 := by omega
  have c2 : (y : Int) < 65536 := by omega
  have c3 : (s1 : Int) < 1073741824 := by omega
  clear hx hs hx1 hs1
  go_enter Try.func15, Try.ntmps15
  go_wp2_with fail
  obtain ⟨F, hF⟩ : ∃ F : Nat, F = 1 + x1 := ⟨_, rfl⟩
  rw [show ((1 : Int) + (x1 : Int)) = (F : Int) by omega]
  obtain ⟨Z, hZ⟩ : ∃ Z : Nat, Z = F + y := ⟨_, rfl⟩
  rw [show ((F : Int) + (y : Int)) = (Z : Int) by omega]
  have hFZ : 1 ≤ F ∧ F ≤ Z ∧ Z ≤ 66535 := by omega
  have HF := Lib.hid hFZ
  have hz1 : (Z : Int) ≤ 66535 := by omega
  have hf1 : (F : Int) ≤ 66535 := by omega
  refine (new6_ok 3 F Z (by omega) ⟨hFZ.1, hFZ.2.1, by omega⟩ w).mono ?_
  rintro e w1 ⟨b, sp, bm, rfl, hW, hst⟩
  have H1 := Lib.hid (And.intro hW hst)
  have HS1 := Lib.hid (show s1 < 1073741824 by omega)
  clear hW hst hF hZ d1 d2 c1 c2 hy hFZ
  have cv := fun (X : World) (C : Array Value) (n c : Nat) => Lib.run_convert_bytes_const (P := Try.prog) X 71 5 C n c Try.underlying71 Try.underlying5
  go_wp2_with fail
  clear cv d3 d4
  have hs1 : Step [] w1 (w1.alloc (.cells #[.int .u8 112] 5 (1, 2))) := Step.alloc _ _
  have HP := put6_ok (H1.out.1.same hs1) (by have := H1.out.2.size; have := hs1.size; omega) (some ⟨w1.heap.size, 0, none⟩) 1 s1 [112] 1 rfl (by simp) (lit1_reads w1 112 (1, 2)) (by have := HS1.out; omega) (by simp) (by simp) (by omega)
  rw [one_set] at HP
  refine HP.mono ?_
  clear HP
  rintro e w2 ⟨rfl, M2, hW2, hl2, hs2⟩
  have hst2 : Step [] w w2 := (H1.out.2.trans hs1).trans' hs2 (fun _ h _ => h) (fun i hi hl => by have := hW2.lo; simp at hi; rcases hi with rfl | rfl <;> omega)
  have H2 := Lib.hid (show WtsAt w b sp bm F Z 0 s1 w2 from ⟨M2, hW2, hst2⟩)
  clear c3 hs1 hW2 hl2 hs2 hst2
  go_wp2_with fail
  go_loopw [11, 14, 57] (fun v11 v14 i wr => ∃ (k nw wv : Nat), k ≤ 20 ∧ i = .int .i64 (k : Int) ∧ v11 = .int .i64 (nw : Int) ∧ v14 = .int .i64 (wv : Int) ∧ wv ≤ 66535 ∧ nw ≤ 1073741824 + k * 66535 ∧ Hid (WtsAt w b sp bm F Z k nw wr ∧ wv = wtN F Z k)) (fun _ _ i wr => 20 - (intOf i).toNat)
  case atStart => exact ⟨0, s1, F, by omega, rfl, rfl, rfl, by omega, by have := HS1.out; omega, ⟨H2.out, rfl⟩⟩
  case round =>
    clear H2
    obtain ⟨k, nw, wv, hk, rfl, rfl, rfl, hwv, hnw, hI⟩ := hrel
    by_cases hlt : k < 20
    · have hki : (k : Int) < 20 := by omega
      obtain ⟨⟨M, hW, hst⟩, hwt⟩ := hI.out
      have hnwi : (nw : Int) ≤ 1073741824 + 20 * 66535 := by omega
      have hwvi : (wv : Int) ≤ 66535 := by omega
      have HA := Lib.hid (one_wakes hW)
      have HI := Lib.hid (And.intro hW (And.intro hst (And.intro hwt hnw)))
      have HNW := Lib.hid hnwi
      clear hI hW hst hwt hnw hnwi
      go_upto_region 13 with (go_at_call 55; refine HA.out.mono ?_; rintro e w3 ⟨rfl, hs3⟩; have H3 := Lib.hid (And.intro (HI.out.1.same hs3) (HI.out.2.1.trans hs3)); clear hs3)
      clear HA
      go_cut [83] from 59 to 116 (fun s83 wc => s83 = .bool false ∧ Hid (WtsAt w b sp bm F Z k nw wc))
      case first =>
        by_cases h0 : nw = 0
        · have s0 : ((0 : Int) < (nw : Int)) = False := by simp; omega
          have s0n : (0 < nw) = False := by simp; omega
          have H5 := Lib.hid (show WtsAt w b sp bm F Z k nw w3 from ⟨M, H3.out.1, H3.out.2⟩)
          clear h0
          go_wp2_with fail
          go_meet
          case rel => exact ⟨rfl, H5⟩
        · obtain ⟨y1, hy1⟩ : ∃ y1, nw = y1 + 1 := ⟨nw - 1, by omega⟩
          have s0 : ((0 : Int) < (nw : Int)) = True := by simp; omega
          have s0n : (0 < nw) = True := by simp; omega
          have wy : IntKind.i64.wrap ((nw : Int) - 1) = (y1 : Int) := by have := HNW.out; rw [IntKind.wrap_i64]; omega
          have HY := Lib.hid hy1
          clear hy1 h0
          go_wp2_with fail
          have hD := one_due_no H3.out.1 H3.out.2.size (by omega) y1 (by have := HY.out; have := HNW.out; omega) (by have := HY.out; omega)
          refine hD.mono ?_
          clear hD
          rintro e w4 ⟨q4, c4, M4, rfl, hW4, hs4⟩
          have hst4 := low6 H3.out.2 hs4 hW4.lo.2.2
          have H4 := Lib.hid (show WtsAt w b sp bm F Z k nw w4 from ⟨M4, hW4, hst4⟩)
          clear hW4 hs4 hst4
          go_wp2_with fail
          go_meet
          case rel => exact ⟨rfl, H4⟩
      case rest =>
        obtain ⟨rfl, hJ⟩ := hcut
        obtain ⟨M4, hW4, hst4⟩ := hJ.out
        have hD := one_due_yes hW4 hst4.size (by omega) nw (by have := HNW.out; omega) (Nat.le_refl _)
        have HD := Lib.hid hD
        have HW4 := Lib.hid (And.intro hst4 hW4.lo)
        clear hD hJ hW4 hst4 H3
        go_wp2_with fail
        refine HD.out.mono ?_
        clear HD
        rintro e w5 ⟨q5, c5, M5, rfl, hc5, hcm5, hO, hW5, hs5⟩
        have hst5 := low6 HW4.out.1 hs5 HW4.out.2.2.2
        obtain ⟨k1, hk1⟩ : ∃ k1, k1 = k + 1 := ⟨_, rfl⟩
        rw [wt_eq (by have := HF.out; omega) k |>.symm] at hW5
        have H5 := Lib.hid (show WtsAt w b sp bm F Z (k + 1) (nw + wtN F Z k) w5 from ⟨M5, hW5, hst5⟩)
        rw [← hk1] at hO
        obtain ⟨E, hE1, hE2, hE3⟩ := hO
        obtain ⟨⟨ek, ev, et⟩, rfl⟩ : ∃ q, E = [q] := by
          match E, hE2 with
          | [q], _ => exact ⟨q, rfl⟩
        obtain ⟨r1, r2, r3⟩ := hE3 0 _ _ rfl rfl
        dsimp only at r1 r2 r3
        subst r1
        subst r2
        obtain ⟨g5, cp5, e5, z1, z2, x1', z3⟩ := row_cell6 hE1 (i := 1) (x := ev) rfl
        obtain ⟨g6, cp6, e6, z4, z5, x2', z6⟩ := row_cell6 hE1 (i := 2) (x := .int .i64 (et : Int)) rfl
        have hcv := back_all w5 ev [112] (by simp) r3.1.reads
        clear z1 z2 z3 z4 z5 z6
        obtain ⟨eq, ec, rfl, z1, z2⟩ := r3.1.form
        clear z1 z2
        rw [show (u8s [112]).length = 1 from rfl] at x1' hcv
        injection e5 with e5 z1 e7
        clear z1
        subst e5
        subst e7
        injection e6 with e6 z1 z2
        clear z1 z2
        injection e6 with e6
        injection e6 with e6 z1 z2
        clear z1 z2
        subst e6
        have hc5i : (c5 : Int) ≤ 9223372036854775807 := by unfold maxLen at hcm5; omega
        rw [str112] at hcv
        have w6 : IntKind.i64.wrap ((k : Int) + 1) = (et : Int) := by rw [IntKind.wrap_i64]; omega
        obtain ⟨mm, hmm⟩ : ∃ mm : Nat, mm = min wv Z := ⟨_, rfl⟩
        have m1 : min (wv : Int) (Z : Int) = (mm : Int) := by omega
        obtain ⟨wv2, hwv2⟩ : ∃ m : Nat, m = min (2 * wv) Z := ⟨_, rfl⟩
        have m2 : min (2 * (wv : Int)) (Z : Int) = (wv2 : Int) := by omega
        have w7 : IntKind.i64.wrap ((nw : Int) + (mm : Int)) = (nw : Int) + (mm : Int) := by have := HNW.out; rw [IntKind.wrap_i64]; omega
        have HMM := Lib.hid (And.intro hmm hwv2)
        have w8 : IntKind.i64.wrap (2 * (wv : Int)) = 2 * (wv : Int) := by rw [IntKind.wrap_i64]; omega
        have HK1 := Lib.hid hk1
        clear hE1 hE2 hE3 r3 hW5 hst5 hs5 hcm5 hk1 hmm hwv2
        go_wp2_with fail
        go_roundw
        case rel =>
          have h1 := HMM.out.1
          have h2 := HMM.out.2
          have h3 := HI.out.2.2.1
          have h4 : mm = wtN F Z k := by
            have h5 := wt_eq (by have := HF.out; omega : F ≤ Z) k
            unfold waitN at h5
            omega
          refine ⟨k + 1, nw + wtN F Z k, wv2, by omega, by rw [HK1.out], by rw [← h4]; go_num, rfl, by have := HF.out; omega, ?_, ⟨H5.out, by unfold wtN; rw [← h3]; exact h2⟩⟩
          have := HI.out.2.2.2
          have := HF.out
          omega
        case measure => have := HK1.out; simp [intOf]; omega
    · obtain rfl : k = 20 := by omega
      clear hlt
      obtain ⟨⟨M, hW, hst⟩, _⟩ := hI.out
      have HA := Lib.hid (one_wakes hW)
      have HI := Lib.hid (And.intro hW hst)
      clear hI hW hst hnw
      go_wp2_with (go_at_call 55; refine HA.out.mono ?_; rintro e w3 ⟨rfl, hs3⟩; have H3 := Lib.hid (And.intro (HI.out.1.same hs3) (HI.out.2.trans hs3)); clear hs3)
      clear HA
      have hA := ack6_any H3.out.1 (by have := one_len rfl H3.out.1; omega) 1 0 (Nat.le_refl _) (by omega)
      rw [one_len rfl H3.out.1] at hA
      refine hA.mono ?_
      clear hA
      rintro e w4 ⟨M4, rfl, hW4, hl4, hs4⟩
      rw [ack_one] at hW4
      have hM4 : M4.length = 0 := by rw [hW4.len]; rfl
      have hst4 := low6 H3.out.2 hs4 hW4.lo.2.2
      have HL := Lib.hid (len6_any _ _ _ _ _ _ _ _ _ _ _ hW4)
      rw [hM4] at HL ⊢
      have H4 := Lib.hid hst4
      clear hW4 hl4 hs4 hst4 hM4
      go_wp2_with (first
        | (go_at_call 57; refine HL.out.mono ?_; rintro e w' ⟨rfl, hw⟩; cases hw.symm)
        | (go_at_call 45; refine (tells_any _).mono ?_; rintro e w9 ⟨rfl, hs9⟩; have H9 := Lib.hid (H4.out.trans hs9); clear hs9))
      go_ret
      exact ⟨rfl, H9.out⟩
end Go.Proofs.Ytbainekfbonbjaa
