/- WindowPlays: its walk. No statement is proved here; nothing is assumed. -/
import Derived.Test.YtbainekfbonbjaaPlL
import Derived.Test.YtbainekfbonbjaaPlN
namespace Go.Proofs.Ytbainekfbonbjaa
open Go.RowKit Go.Shelf
set_option linter.unusedVariables false
set_option linter.unusedSimpArgs false
attribute [local go_sem] Oper.semAt_some

theorem RowOf.same8 {w W : World} {q : Option Addr} {n k : Nat} {V : Nat → Nat → Value} (h : RowOf w q n k V) (hs : Step [] w W) : RowOf W q n k V := by
  rcases h with h | ⟨b, off, h1, h2⟩
  · exact .inl h
  · exact .inr ⟨b, off, h1, fun i hi j hj => step_cell hs (h2 i hi j hj)⟩
theorem KeptA.low8 {B B' : Nat} {W : World} {v : Value} {k : Nat} {V : Nat → Nat → Value} (h : KeptA B W v k V) (hB : B' ≤ B) : KeptA B' W v k V := by
  obtain ⟨xs, ⟨hl, ho⟩, hx⟩ := h
  refine ⟨xs, ⟨hl, ?_⟩, hx⟩
  rcases ho with ho | ⟨g, cap, cur, h1, h2, h3, h4⟩
  · exact .inl ho
  · exact .inr ⟨g, cap, cur, h1, by omega, h3, h4⟩
theorem keep4 {w0 W W' : World} {a1 a2 a3 a4 : Addr} {v1 v2 v3 v4 : Value} (h : W.cell? a1 = some v1 ∧ W.cell? a2 = some v2 ∧ W.cell? a3 = some v3 ∧ W.cell? a4 = some v4 ∧ Step [] w0 W) (hs : Step [] W W') :
    W'.cell? a1 = some v1 ∧ W'.cell? a2 = some v2 ∧ W'.cell? a3 = some v3 ∧ W'.cell? a4 = some v4 ∧ Step [] w0 W' :=
  ⟨step_cell hs h.1, step_cell hs h.2.1, step_cell hs h.2.2.1, step_cell hs h.2.2.2.1, h.2.2.2.2.trans hs⟩
set_option maxRecDepth 100000 in
set_option maxHeartbeats 16000000 in
theorem plays_walk (lim : Nat) (first most : Int) (hl32 : lim < 4294967296) (q : Option Addr) (N cap : Nat) (hN : N ≤ cap) (hcap : cap ≤ maxLen) (V : Nat → Nat → Value) (w : World) (hrow : RowOf w q N 5 V)
    (hV : ∀ i, i < N → ∃ a q n cap xs t k m, ActIs w (V i) a q n cap xs t k m) :
    Calls Try.prog 8 #[.int .u32 (lim : Int), .int .i64 first, .int .i64 most, .slice q N cap] w fun e w' => e = .returned (.bool true) ∧ Step [] w w' := by
  have HV := Lib.hid hV
  have HR := Lib.hid hrow
  have HC := Lib.hid (And.intro hN hcap)
  clear hV hrow hN hcap hl32
  by_cases hb : (lim < 1 ∨ 2147483648 < lim) ∨ first < 1 ∨ most < first ∨ 1099511627776 < most
  · have H43 := Lib.hid (new6_bad lim first most hb w)
    have HBB := Lib.hid hb
    clear hb
    go_enter Try.func8, Try.ntmps8
    go_wp2_with fail
    refine H43.out.mono ?_
    rintro e w1 ⟨rfl, hs1⟩
    have H1 := Lib.hid hs1
    clear hs1 H43
    go_wp2_with fail
    refine (refWNew_bad lim first most w1 HBB.out).mono ?_
    rintro e w2 ⟨rfl, hs2⟩
    have H2 := Lib.hid (H1.out.trans hs2)
    clear hs2 H1
    go_wp2_with fail
    refine (tells_any _).mono ?_
    rintro e w3 ⟨rfl, hs3⟩
    have H3 := Lib.hid (H2.out.trans hs3)
    clear hs3 H2
    go_wp2_with fail
    go_ret
    exact ⟨rfl, H3.out⟩
  · obtain ⟨a, rfl⟩ := Int.eq_ofNat_of_zero_le (show 0 ≤ first by omega)
    obtain ⟨z, rfl⟩ := Int.eq_ofNat_of_zero_le (show 0 ≤ most by omega)
    have hl : 1 ≤ lim ∧ lim ≤ 2147483648 := by omega
    have ha : 1 ≤ a ∧ a ≤ z ∧ z ≤ 1099511627776 := by omega
    have H43 := Lib.hid (new6_ok lim a z hl ha w)
    have HLA := Lib.hid (And.intro hl ha)
    clear hb hl ha
    go_enter Try.func8, Try.ntmps8
    go_wp2_with fail
    refine H43.out.mono ?_
    rintro e w1 ⟨b, sp, bm, rfl, hW, hs1⟩
    have H1 := Lib.hid (And.intro hW hs1)
    clear hW hs1 H43
    go_wp2_with fail
    refine (refWNew_ok lim a z HLA.out.1 HLA.out.2 w1).mono ?_
    rintro e w2 ⟨br, rs, rfl, hRf, hs2⟩
    have hsw := H1.out.2.trans hs2
    have hF := few6_any 50 (by omega) q N cap HC.out.1 HC.out.2 V w2 (HR.out.same8 hsw) (fun i hi => by
      obtain ⟨a, q, n, cap, xs, t, k, m, r0, r1, r2, r3, r4, r5, r6, r7, r8, r9, r10, r11, r12, r13, r14⟩ := HV.out i hi
      exact ⟨a, q, n, cap, xs, t, k, m, r0, r1, r2, r3, r4, r5, r6, r7, r8, r9, r10, r11, r12, r13.same hsw, r14⟩)
    obtain ⟨m, hm⟩ : ∃ m, m = min N 50 := ⟨_, rfl⟩
    rw [← hm] at hF
    have HFW := Lib.hid hF
    have H2 := Lib.hid (And.intro (show RefW w.heap.size w2 br rs 0 lim a z (.slice none 0 0) [] (recs (fun _ => none) 0) from by
      rw [recs_none]
      exact ⟨hRf.o, hRf.s, by have := hRf.lo; have := H1.out.2.size; omega, World.ownsRow_nil _ _ _ _, RowR.nil⟩) (And.intro hsw hs2))
    clear hF hsw hs2 hRf
    go_wp2_with fail
    refine HFW.out.mono ?_
    clear HFW
    rintro e w3 ⟨iv, rfl, hK, hs3⟩
    obtain ⟨qi, ci, rfl, hcl, hcm⟩ := hK.form
    have H0 := Lib.hid (show PlAt w b sp bm br rs 0 lim a z 0 [] (fun _ => none) (.slice none 0 0) [] (.slice qi m ci) m V w3 from
      ⟨(H1.out.1.same H2.out.2.2).same hs3, H2.out.1.same hs3, H2.out.2.1.trans hs3, by simp, by simp, hK.low8 H2.out.2.1.size⟩)
    have hci : (ci : Int) ≤ 9223372036854775807 := by unfold maxLen at hcm; omega
    have HMN := Lib.hid (show m ≤ N ∧ m ≤ 50 by omega)
    clear hK hs3 hcm hm H1 H2
    go_wp2_with fail
    go_loopw [9, 57] (fun v9 i wr => ∃ j b1 : Nat, j ≤ m ∧ i = .int .i64 (j : Int) ∧ v9 = .pointer (some ⟨b1, 0, none⟩) ∧ Hid (∃ sp bm u M g sv E, PlAt w b1 sp bm br rs u lim a z j M g sv E (.slice qi m ci) m V wr)) (fun _ i wr => m - (intOf i).toNat)
    case atStart => exact ⟨0, b, by omega, rfl, rfl, _, _, _, _, _, _, _, H0.out⟩
    case round =>
      clear H0
      obtain ⟨j, b1, hj, rfl, rfl, hI⟩ := hrel
      by_cases hlt : j < m
      · have hji : (j : Int) < (m : Int) := by omega
        obtain ⟨sp1, bm1, u, M, g, sv, E, hPl⟩ := hI.out
        obtain ⟨what, q2, n2, c2, xs, t, ack, mask, hA⟩ := HV.out j (by have := HMN.out.1; omega)
        obtain ⟨gi, cap', e1, z1, z2, x0, x1, x2, x3, x4⟩ := hPl.ka.at hlt hA
        clear z1 z2
        injection e1 with e1 z1 e3
        clear z1
        subst e1
        subst e3
        obtain ⟨r0, r1, r2, r3, r4, r5, r6, r7, r8, r9, r10, r11, r12, r13, r14⟩ := hA
        obtain ⟨n3, hn3⟩ : ∃ n3, n3 = min n2 300 := ⟨_, rfl⟩
        rw [← hn3] at x1
        have HP := Lib.hid (And.intro hn3 (And.intro r11 (And.intro r12 (And.intro r13 (And.intro r14 (And.intro (And.intro r9 r10) (And.intro r7 r8)))))))
        have HPl := Lib.hid hPl
        have hnc3 : n3 ≤ c2 := by omega
        have hcm2 : (c2 : Int) ≤ 9223372036854775807 := by unfold maxLen at r10; omega
        clear hI hPl hn3 r0 r1 r2 r3 r4 r5 r6 r7 r8 r9 r10 r11 r12 r13 r14
        go_upto_region 10 with fail
        have o14 : (wr.alloc (.cells #[.int .i64 what, .slice q2 n3 c2, .int .i64 t, .int .u32 (ack : Int), .int .u32 (mask : Int)] 73)).heap[wr.heap.size]? = some (.cells #[.int .i64 what, .slice q2 n3 c2, .int .i64 t, .int .u32 (ack : Int), .int .u32 (mask : Int)] 73) := by rw [heap_alloc_get, if_pos rfl]
        have hsa : Step [] wr (wr.alloc (.cells #[.int .i64 what, .slice q2 n3 c2, .int .i64 t, .int .u32 (ack : Int), .int .u32 (mask : Int)] 73)) := Step.alloc _ _
        obtain ⟨b14, hb14⟩ : ∃ b14, b14 = wr.heap.size := ⟨_, rfl⟩
        obtain ⟨wa, hwa⟩ : ∃ wa, wa = wr.alloc (.cells #[.int .i64 what, .slice q2 n3 c2, .int .i64 t, .int .u32 (ack : Int), .int .u32 (mask : Int)] 73) := ⟨_, rfl⟩
        rw [← hb14, ← hwa] at o14
        rw [← hwa] at hsa
        rw [← hb14, ← hwa]
        have y0 := cells_cell (i := 0) o14 rfl
        have HS := Lib.hid (show PwAt w wa b1 sp1 bm1 br rs u lim a z j gi m ci b14 n2 n3 c2 ack mask V q2 xs what t M g sv E from
          ⟨HPl.out.same hsa, o14, HP.out.1, HP.out.2.1, HP.out.2.2.1, HP.out.2.2.2.1, HP.out.2.2.2.2.1, HP.out.2.2.2.2.2.1, HP.out.2.2.2.2.2.2, by have := HMN.out.2; omega⟩)
        clear x0 x1 x2 x3 x4 o14 hsa hb14 hwa HPl HP
        go_upto_block 2 with fail
        clear y0
        go_cut [9] from 63 to 218 (fun s9 wc => PwP w br rs lim a z j gi m ci V s9 wc)
        case first =>
          rename_i J K' h1 h2
          by_cases hput : what = 0 ∨ what = 1 ∨ what = 2 ∨ what = 3
          · refine plays_put ?_ h2 HS hput
            exact h1
          · by_cases hdue : what = 4 ∨ what = 5
            · refine plays_due ?_ h2 HS hdue
              exact h1
            · by_cases hack : what = 6 ∨ what = 7
              · refine plays_ack ?_ h2 HS hack
                exact h1
              · by_cases hcp : what = 8
                · refine plays_copy ?_ h2 HS hcp
                  exact h1
                · refine plays_other ?_ h2 HS (by omega)
                  exact h1
        case rest =>
          unfold PwP at hcut
          obtain ⟨b2, rfl, hI⟩ := hcut
          obtain ⟨sp2, bm2, u2, M2, g2, sv2, E2, hPl⟩ := hI.out
          clear hI HS
          obtain ⟨tt, ok, c55, c56⟩ := hPl.wakes
          as_aux_lemma =>
            have HPl := Lib.hid hPl
            have H55 := Lib.hid c55
            have H56 := Lib.hid c56
            clear hPl c55 c56
            go_wp2_with fail
            refine H55.out.mono ?_
            clear H55
            rintro e w5 ⟨rfl, hs5⟩
            have HP5 := Lib.hid (HPl.out.same hs5)
            have H56b := Lib.hid (H56.out _ hs5)
            clear hs5 HPl H56
            go_wp2_with fail
            refine H56b.out.mono ?_
            clear H56b
            rintro e w6 ⟨rfl, hw⟩
            cases hw.symm
            obtain ⟨Lm, hLm⟩ : ∃ Lm, Lm = M2.length := ⟨_, rfl⟩
            obtain ⟨T, hT⟩ : ∃ T, T = bytesR (recs g2 u2) := ⟨_, rfl⟩
            obtain ⟨ao, cp, hsv, hcap5, hcm5⟩ := HP5.out.ref.form
            rw [HP5.out.len, ← hLm] at hsv hcap5
            have q57 : ∀ W, Step [] w5 W → Calls Try.prog 57 #[.pointer (some ⟨b2, 0, none⟩)] W fun e w' => e = .returned (.int .i64 (Lm : Int)) ∧ w' = W := fun W hs => by rw [hLm]; exact len6_any _ _ _ _ _ _ _ _ _ _ _ (HP5.out.win.same hs)
            have q58 : ∀ W, Step [] w5 W → Calls Try.prog 58 #[.pointer (some ⟨b2, 0, none⟩)] W fun e w' => e = .returned (.int .i64 (T : Int)) ∧ Step [] W w' := fun W hs => by rw [hT, ← sumG_recs]; exact bytes6_any (HP5.out.win.same hs) (by have := HP5.out.n; omega)
            have q59 : ∀ W, Step [] w5 W → Calls Try.prog 59 #[.pointer (some ⟨br, 0, none⟩)] W fun e w' => e = .returned (.int .i64 (T : Int)) ∧ w' = W := fun W hs => by rw [hT]; exact refWBytes (HP5.out.ref.same hs) (by rw [HP5.out.len]; have := HP5.out.n; omega)
            have q54 : ∀ W, Step [] w5 W → Calls Try.prog 54 #[.pointer (some ⟨b2, 0, none⟩)] W fun e w' => e = .returned (.int .u32 (u2 : Int)) ∧ w' = W := fun W hs => next6_any _ _ _ _ _ _ _ _ _ _ _ (HP5.out.win.same hs)
            obtain ⟨r, hr⟩ : ∃ r : Nat, r + u2 = lim := ⟨lim - u2, by have := HP5.out.win.ul; omega⟩
            have q60 : ∀ W, Step [] w5 W → Calls Try.prog 60 #[.pointer (some ⟨b2, 0, none⟩)] W fun e w' => e = .returned (.int .u32 (r : Int)) ∧ Step [] W w' := fun W hs => by rw [show (r : Int) = (lim : Int) - (u2 : Int) by omega]; exact left6_any _ _ _ _ _ _ _ _ _ _ _ (HP5.out.win.same hs)
            have e60 : IntKind.u32.wrap ((lim : Int) - (u2 : Int)) = (r : Int) := by rw [IntKind.wrap_u32]; have := HP5.out.win.ul; omega
            obtain ⟨k0, k1, k2, k3, _⟩ := HP5.out.ref.cells
            rw [hsv] at k3
            have hsp5 : w5.heap[rs]? = some (spaceObj 60 u2 lim) := HP5.out.ref.s
            have k4 := cells_cell (i := 0) hsp5 rfl
            have k5 := cells_cell (i := 1) hsp5 rfl
            have kd : w5.drew.cell? ⟨br, 3, none⟩ = some (.slice ao Lm cp) ∧ w5.drew.cell? ⟨br, 0, none⟩ = some (.pointer (some ⟨rs, 0, none⟩)) ∧ w5.drew.cell? ⟨rs, 0, none⟩ = some (.int .u32 (u2 : Int)) ∧ w5.drew.cell? ⟨rs, 1, none⟩ = some (.int .u32 (lim : Int)) ∧ Step [] w5 w5.drew := ⟨k3, k0, k4, k5, Step.drew _⟩
            have ks : w5.cell? ⟨br, 3, none⟩ = some (.slice ao Lm cp) ∧ w5.cell? ⟨br, 0, none⟩ = some (.pointer (some ⟨rs, 0, none⟩)) ∧ w5.cell? ⟨rs, 0, none⟩ = some (.int .u32 (u2 : Int)) ∧ w5.cell? ⟨rs, 1, none⟩ = some (.int .u32 (lim : Int)) ∧ Step [] w5 w5 := ⟨k3, k0, k4, k5, Step.refl _ _⟩
            have Q57 := Lib.hid q57
            have Q58 := Lib.hid q58
            have Q59 := Lib.hid q59
            have Q54 := Lib.hid q54
            have Q60 := Lib.hid q60
            have hcp5 : (cp : Int) ≤ 9223372036854775807 := by unfold maxLen at hcm5; omega
            clear q57 q58 q59 q54 q60 hsv hLm hT hr hsp5 k0 k1 k2 k3 k4 k5 hcm5
            go_upto_region 49 with fail
            go_region_held3 (fun W => W.cell? ⟨br, 3, none⟩ = some (.slice ao Lm cp) ∧ W.cell? ⟨br, 0, none⟩ = some (.pointer (some ⟨rs, 0, none⟩)) ∧ W.cell? ⟨rs, 0, none⟩ = some (.int .u32 (u2 : Int)) ∧ W.cell? ⟨rs, 1, none⟩ = some (.int .u32 (lim : Int)) ∧ Step [] w5 W)
              (first | exact ks | exact kd | assumption | exact keep4 ‹_› ‹_›)
              (first
                | (go_at_call 57; refine (Q57.out _ (by first | exact kd.2.2.2.2 | exact (‹_ ∧ _ ∧ _ ∧ _ ∧ _›).2.2.2.2)).mono ?_; rintro e w' ⟨rfl, hw⟩; cases hw.symm)
                | (go_at_call 58; refine (Q58.out _ (by first | exact kd.2.2.2.2 | exact (‹_ ∧ _ ∧ _ ∧ _ ∧ _›).2.2.2.2)).mono ?_; rintro e w' ⟨rfl, hs58⟩)
                | (go_at_call 59; refine (Q59.out _ (by first | exact kd.2.2.2.2 | exact (‹_ ∧ _ ∧ _ ∧ _ ∧ _›).2.2.2.2)).mono ?_; rintro e w' ⟨rfl, hw⟩; cases hw.symm)
                | (go_at_call 54; refine (Q54.out _ (by first | exact kd.2.2.2.2 | exact (‹_ ∧ _ ∧ _ ∧ _ ∧ _›).2.2.2.2)).mono ?_; rintro e w' ⟨rfl, hw⟩; cases hw.symm)
                | (go_at_call 60; refine (Q60.out _ (by first | exact kd.2.2.2.2 | exact (‹_ ∧ _ ∧ _ ∧ _ ∧ _›).2.2.2.2)).mono ?_; rintro e w' ⟨rfl, hs60⟩))
            rename_i hHeld
            have HZ := Lib.hid (HP5.out.same hHeld.2.2.2.2)
            clear hHeld ks kd Q57 Q58 Q59 Q54 Q60 HP5 e60
            go_wp2_with fail
            go_roundw
            case rel => exact ⟨j + 1, b2, by omega, by go_num, rfl, _, _, _, _, _, _, _, HZ.out⟩
            case measure => simp [intOf]; omega
      · obtain ⟨sp1, bm1, u, M, g, sv, E, hPl⟩ := hI.out
        have HZ := Lib.hid hPl.st
        have hji : ((j : Int) < (m : Int)) = False := eq_false (by omega)
        clear hI hPl hlt hj
        go_wp2_with fail
        refine (tells_any _).mono ?_
        rintro e w3 ⟨rfl, hs3⟩
        have H3 := Lib.hid (HZ.out.trans hs3)
        clear hs3 HZ
        go_wp2_with fail
        go_ret
        exact ⟨rfl, H3.out⟩
end Go.Proofs.Ytbainekfbonbjaa
