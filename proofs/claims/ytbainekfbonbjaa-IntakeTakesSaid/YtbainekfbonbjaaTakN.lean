/- IntakeTakes: its walk. No statement is proved here; nothing is assumed. -/
import Derived.Test.YtbainekfbonbjaaTakM
import Derived.Deep.CutRange
namespace Go.Proofs.Ytbainekfbonbjaa
open Go.RowKit Go.Shelf Go.Maps
set_option linter.unusedVariables false
set_option linter.unusedSimpArgs false
attribute [local go_sem] Oper.semAt_some

theorem RowOf.same {w W : World} {q : Option Addr} {n k : Nat} {V : Nat → Nat → Value} (h : RowOf w q n k V) (hs : Step [] w W) : RowOf W q n k V := by
  rcases h with h | ⟨b, off, h1, h2⟩
  · exact .inl h
  · exact .inr ⟨b, off, h1, fun i hi j hj => step_cell hs (h2 i hi j hj)⟩
theorem KeptI.low {B B' : Nat} {W : World} {iv : Value} {N : Nat} {V : Nat → Nat → Value} (h : KeptI B W iv N V) (hB : B' ≤ B) : KeptI B' W iv N V := by
  obtain ⟨xs, ⟨hl, ho⟩, hx⟩ := h
  refine ⟨xs, ⟨hl, ?_⟩, hx⟩
  rcases ho with ho | ⟨g, cap, cur, h1, h2, h3, h4⟩
  · exact .inl ho
  · exact .inr ⟨g, cap, cur, h1, by omega, h3, h4⟩
theorem KeptI.form {B : Nat} {W : World} {iv : Value} {N : Nat} {V : Nat → Nat → Value} (h : KeptI B W iv N V) : ∃ q c, iv = .slice q N c ∧ N ≤ c ∧ c ≤ maxLen := by
  obtain ⟨xs, ⟨hl, ho⟩, hx⟩ := h
  rcases ho with ⟨h1, h2⟩ | ⟨g, cap, cur, h1, h2, h3, h4, h5, _⟩
  · exact ⟨none, 0, by rw [h1, h2], by omega, by simp [maxLen]⟩
  · exact ⟨_, cap, h1, h4, h5⟩
theorem refM_new {w w1 : World} (h : w.heap.size ≤ w1.heap.size) : RefM w.heap.size (w1.alloc (.cells #[.int .u32 0, .slice none 0 0] 112)) w1.heap.size 0 (.slice none 0 0) [] (fun _ => none) :=
  ⟨by rw [heap_alloc_get, if_pos rfl]; rfl, h, World.ownsRow_nil _ _ _ _, ⟨by simp, by simp, by simp⟩⟩
theorem keepL2 {A B : Prop} {W4 X : World} (h : A ∧ B ∧ Step [] W4 X) : Step [] W4 X := h.2.2
theorem keepR2 {A B : Prop} {W4 X X' : World} (h : A ∧ B ∧ Step [] W4 X) (hs : Step [] X X') : Step [] W4 X' := h.2.2.trans hs
set_option maxRecDepth 100000 in
set_option maxHeartbeats 8000000 in
theorem takes_walk (q : Option Addr) (N cap : Nat) (hN : N ≤ cap) (hcap : cap ≤ maxLen) (V : Nat → Nat → Value) (w : World) (hrow : RowOf w q N 2 V)
    (hV : ∀ i, i < N → ∃ (k : Nat) (q : Option Addr) (n cap : Nat) (xs : List Nat), V i 0 = .int .u32 (k : Int) ∧ k < 4294967296 ∧ V i 1 = .slice q n cap ∧ n ≤ cap ∧ cap ≤ maxLen ∧ n = xs.length ∧ (∀ x ∈ xs, x < 256) ∧ Reads w (.slice q n cap) (u8s xs) ∧ (q = none → cap = 0)) :
    Calls Try.prog 12 #[.slice q N cap] w fun e w' => e = .returned (.bool true) ∧ Step [] w w' := by
  have HV := Lib.hid hV
  have HR := Lib.hid hrow
  have HC := Lib.hid (And.intro hN hcap)
  have hNm : (N : Int) ≤ 9223372036854775807 := by unfold maxLen at hcap; omega
  clear hV hrow hN hcap
  obtain ⟨m80, hm80⟩ : ∃ m, m = min N 80 := ⟨_, rfl⟩
  go_enter Try.func12, Try.ntmps12
  go_wp2_with (first | (go_at_call 68; refine (new7_any _).mono ?_; rintro e w1 ⟨bi, bm, rfl, hI, hs⟩; have HI := Lib.hid (And.intro hI hs); clear hI hs))
  have s1 : Step [] w (w1.alloc (.cells #[.int .u32 0, .slice none 0 0] 112)) := HI.out.2.trans (Step.alloc _ _)
  have hF := few_any q N cap HC.out.1 HC.out.2 V (w1.alloc (.cells #[.int .u32 0, .slice none 0 0] 112)) (HR.out.same s1) (fun i hi => by
    obtain ⟨k, q, n, cap, xs, h1, h2, h3, h4, h5, _⟩ := HV.out i hi
    exact ⟨k, q, n, cap, h1, h3, h4, h5⟩)
  rw [← hm80] at hF
  have hr := refM_new HI.out.2.size
  refine hF.mono ?_
  rintro e w2 ⟨iv, rfl, hK, hs2⟩
  obtain ⟨qi, ci, rfl, hcl, hcm⟩ := hK.form
  have h0 : TwoAt w bi bm w1.heap.size m80 (.slice qi m80 ci) V 0 none 0 0 (.slice none 0 0) [] [] (fun _ => none) w2 :=
    ⟨(HI.out.1.same (Step.alloc _ _)).same hs2, hr.same hs2, by simp, by simp, hK.low s1.size, s1.trans hs2, .inl rfl⟩
  obtain ⟨br, hbr⟩ : ∃ br, br = w1.heap.size := ⟨_, rfl⟩
  rw [← hbr] at h0 ⊢
  have hm : m80 ≤ N ∧ m80 ≤ 80 := by omega
  have hci : (ci : Int) ≤ 9223372036854775807 := by unfold maxLen at hcm; omega
  have H0 := Lib.hid h0
  have H80 := Lib.hid hm
  clear h0 hr hF s1 hK hs2 hcm HI hbr hm80
  go_wp2_with fail
  go_loopw [5, 6, 27] (fun v5 v6 i wr => ∃ (k Ft : Nat) (tp : Option Addr), k ≤ m80 ∧ i = .int .i64 (k : Int) ∧ v5 = .pointer tp ∧ v6 = .int .u32 (Ft : Int) ∧ Hid (∃ F sv M K f, TwoAt w bi bm br m80 (.slice qi m80 ci) V k tp Ft F sv M K f wr)) (fun _ _ i wr => m80 - (intOf i).toNat)
  case atStart => exact ⟨0, 0, none, by omega, rfl, rfl, rfl, ⟨_, _, _, _, _, H0.out⟩⟩
  case round =>
    clear H0
    obtain ⟨k, Ft, tp, hk, rfl, rfl, rfl, hI⟩ := hrel
    by_cases hlt : k < m80
    · have hki : (k : Int) < (m80 : Int) := by omega
      obtain ⟨F, sv, M, K, f, hT⟩ := hI.out
      obtain ⟨n, q2, n2, c2, xs, v0, hn, v1, hn2, hc2, hx, hxb, hrd, hqn⟩ := HV.out k (by have := H80.out; omega)
      obtain ⟨gi, cap', e1, hx1, hx2, c0, c1⟩ := hT.it.at hlt v0 v1
      clear hx1 hx2
      injection e1 with e1 e2 e3
      subst e1
      subst e3
      obtain ⟨n3, hn3⟩ : ∃ n3, n3 = min n2 300 := ⟨_, rfl⟩
      rw [← hn3] at c1
      obtain ⟨p, hp⟩ : ∃ p, p = xs.take 300 := ⟨_, rfl⟩
      have hpl : n3 = p.length := by rw [hp, List.length_take]; omega
      have hpr : Reads w (.slice q2 n3 c2) (u8s p) := by
        have := hrd.take n3 (by omega) hqn
        rw [hp, show xs.take 300 = xs.take n3 by rw [hn3, hx, List.take_eq_take_min, Nat.min_comm]]
        simpa [u8s, List.map_take] using this
      have hpb : ∀ x ∈ p, x < 256 := fun x hx' => hxb x (List.mem_of_mem_take (hp ▸ hx'))
      have HP := Lib.hid (And.intro hpl (And.intro hpr (And.intro hpb (And.intro hn (show p.length ≤ 300 by omega)))))
      have HT := Lib.hid hT
      have hnc3 : n3 ≤ c2 := by omega
      have hcm2 : (c2 : Int) ≤ 9223372036854775807 := by unfold maxLen at hc2; omega
      obtain ⟨m2, hm2⟩ : ∃ m2, m2 = N / 2 := ⟨_, rfl⟩
      have hq1 : (N : Int).tdiv 2 = (m2 : Int) := by rw [Int.tdiv_eq_ediv_of_nonneg (by omega)]; omega
      clear hI hT hx hxb hrd hqn hp hn hpl hpr hpb v0 v1 hn3 hm2 hn2 hc2 e2
      go_upto_if 36 with fail
      obtain ⟨b36, hb36⟩ : ∃ b, b = ((k : Int) == wrap64 (m2 : Int)) := ⟨_, rfl⟩
      rw [← hb36]
      obtain ⟨b8, hb8⟩ : ∃ b8, b8 = wr.heap.size := ⟨_, rfl⟩
      have o8 : (wr.alloc (.cells #[.int .u32 (n : Int), .slice q2 n3 c2] 115)).heap[b8]? = some (.cells #[.int .u32 (n : Int), .slice q2 n3 c2] 115) := by rw [hb8, heap_alloc_get, if_pos rfl]
      obtain ⟨wa, hwa⟩ : ∃ wa, wa = wr.alloc (.cells #[.int .u32 (n : Int), .slice q2 n3 c2] 115) := ⟨_, rfl⟩
      have hTa : TwoAt w bi bm br m80 (.slice (some ⟨gi, 0, none⟩) m80 ci) V k tp Ft F sv M K f wa := by rw [hwa]; exact HT.out.same (Step.alloc _ _)
      rw [← hb8, ← hwa]
      rw [← hwa] at o8
      have HA := Lib.hid (And.intro hTa o8)
      clear hTa o8 hwa hb8 hb36 HT c0 c1 hq1
      go_cut [5, 6] from 28 to 135 (fun s5 s6 wc => ∃ (tp : Option Addr) (Ft : Nat), s5 = .pointer tp ∧ s6 = .int .u32 (Ft : Int) ∧ Hid (TwoAt w bi bm br m80 (.slice (some ⟨gi, 0, none⟩) m80 ci) V k tp Ft F sv M K f wc ∧ wc.heap[b8]? = some (.cells #[.int .u32 (n : Int), .slice q2 n3 c2] 115)))
      case first =>
        cases b36 with
        | false =>
          go_wp2_with fail
          go_meet
          case rel => exact ⟨tp, Ft, rfl, rfl, HA⟩
        | true =>
          go_wp2_with (go_at_call 67; refine (copy7_any w.heap.size bi bm F M f _ HA.out.1.i).mono ?_; rintro e w3 ⟨cj, cm, rfl, hI3, hlo, hlo2, hs3⟩; have H3 := Lib.hid (And.intro hI3 (And.intro hlo hs3)); have HF3 := Lib.hid (floor_any _ _ _ _ _ _ _ hI3); clear hI3 hlo hlo2 hs3)
          go_wp2_with (go_at_call 64; refine HF3.out.mono ?_; rintro e w4 ⟨rfl, rfl⟩)
          go_meet
          case rel => exact ⟨some ⟨cj, 0, none⟩, F, rfl, rfl, ⟨⟨HA.out.1.i.same H3.out.2.2, HA.out.1.r.same H3.out.2.2, HA.out.1.lm, HA.out.1.lk, HA.out.1.it.same H3.out.2.2, HA.out.1.st.trans H3.out.2.2, .inr ⟨cj, cm, rfl, by have := heap_lt HA.out.1.i.o; have := H3.out.2.1; omega, H3.out.1.o⟩⟩, obj_step HA.out.2 H3.out.2.2 (by simp)⟩⟩
      case rest =>
        obtain ⟨tp2, Ft2, rfl, rfl, hI⟩ := hcut
        clear HA b36
        have d0 := cells_cell (i := 0) hI.out.2 rfl
        have d1 := cells_cell (i := 1) hI.out.2 rfl
        go_wp2_with fail
        clear d0 d1
        refine (bytesClone_any _ (u8s p) (u8s_one p) (by rw [u8s_length]; have := HP.out.2.2.2.2; omega) _ (HP.out.2.1.same hI.out.1.st)).mono ?_
        rintro e w3 ⟨own, rfl, ho, hs3⟩
        obtain ⟨oq, oc, rfl, hol, hom⟩ := ho.form
        rw [u8s_length, ← HP.out.1] at ho hol
        rw [u8s_length, ← HP.out.1]
        have hocm : (oc : Int) ≤ 9223372036854775807 := by unfold maxLen at hom; omega
        have i3 := hI.out.1.i.same hs3
        have HTk := Lib.hid (takeAllN w.heap.size bi bm F M f oq oc n p w3 i3 (by have := hI.out.1.st.size; have := hs3.size; omega) HP.out.2.2.1 n3 HP.out.1 ho.reads HP.out.2.2.2.1 (by have := hI.out.1.lm; have := H80.out; omega))
        have o3 := obj_step hI.out.2 hs3 (by simp)
        have d0 := cells_cell (i := 0) o3 rfl
        have HS3 := Lib.hid (And.intro ho (And.intro hs3 (And.intro i3 o3)))
        clear ho hom hs3 i3 o3
        go_wp2_with fail
        refine HTk.out.mono ?_
        clear HTk
        rintro e w4 ⟨tv, vals, L, fate, err, F', M', f', rfl, g1, g2, g3, g4, g5, g6, g7, g8⟩
        obtain ⟨tq, tc, rfl, htl, htm⟩ := g1.form
        obtain ⟨vl, hvl⟩ : ∃ vl, vl = vals.length := ⟨_, rfl⟩
        rw [← hvl] at htl g1 ⊢
        have htcm : (tc : Int) ≤ 9223372036854775807 := by unfold maxLen at htm; omega
        obtain ⟨m1, m2', m3, m4, m5⟩ := hI.out.1.mid HS3.out.2.1 g3 g8
        have o4 := item_int HS3.out.2.2.1 g8 HS3.out.2.2.2
        have d0' := cells_cell (i := 0) o4 rfl
        have d1' := cells_cell (i := 1) o4 rfl
        have HTr := Lib.hid (refTakeAllN w.heap.size br F sv K f q2 c2 n p w4 m1 m2' HP.out.2.2.1 n3 HP.out.1 (HP.out.2.1.same m4) HP.out.2.2.2.1 (by have := hI.out.1.lk; have := H80.out; omega))
        have G := Lib.hid (And.intro g1 (And.intro g2 (And.intro g3 (And.intro g4 (And.intro g5 (And.intro g6 (And.intro g7 (And.intro g8 hvl))))))))
        clear d0 o4 m1 m2' m3 m4 m5 g1 g2 g3 g4 g5 g6 g7 g8 htm hvl
        go_wp2_with fail
        refine HTr.out.mono ?_
        clear HTr
        rintro e w5 ⟨tv2, vals2, L2, fate2, err2, F2, sv', K', f2, rfl, r1, r2, r3, r4, r5, r6, r7, r8⟩
        obtain ⟨tq2, tc2, rfl, htl2, htm2⟩ := r1.form
        obtain ⟨vl2, hvl2⟩ : ∃ vl, vl = vals2.length := ⟨_, rfl⟩
        rw [← hvl2] at htl2 r1 ⊢
        have htcm2 : (tc2 : Int) ≤ 9223372036854775807 := by unfold maxLen at htm2; omega
        have hbm : BumpAt wc.heap.size w5 (.slice oq n3 oc) p 0 w5 := by
          obtain ⟨S, h1, h2⟩ := r8
          exact BumpAt.start ((own_int HS3.out.2.2.1 G.out.2.2.2.2.2.2.2.1 HS3.out.1).apart h1 (fun i hm => refTy_not (by decide) (h2 i hm).2))
        have R := Lib.hid (And.intro r1 (And.intro r2 (And.intro r3 (And.intro r4 (And.intro r5 (And.intro r6 (And.intro r7 (And.intro r8 hvl2))))))))
        have HB := Lib.hid hbm
        clear d0' d1' r1 r2 r3 r4 r5 r6 r7 r8 hbm htm2 hvl2
        go_wp2_with fail
        go_loopw [65] (fun i wr6 => ∃ j : Nat, j ≤ n3 ∧ i = .int .i64 (j : Int) ∧ Hid (BumpAt wc.heap.size w5 (.slice oq n3 oc) p j wr6)) (fun i wr6 => n3 - (intOf i).toNat)
        case atStart => exact ⟨0, by omega, rfl, HB⟩
        case round =>
          clear HB
          obtain ⟨j, hj, rfl, hB⟩ := hrel
          by_cases hjn : j < n3
          · have hji : (j : Int) < (n3 : Int) := by omega
            obtain ⟨go, off, x, rfl, cx, fx, hnx⟩ := hB.out.next (by have := HP.out.1; omega)
            have HX := Lib.hid hnx
            clear hnx hB
            go_wp2_with fail
            go_roundw
            case rel => exact ⟨j + 1, by omega, by go_num, HX.out _⟩
            case measure => simp [intOf]; omega
          · have hjn' : ((j : Int) < (n3 : Int)) = False := by simp; omega
            obtain ⟨rfl, rfl, rfl, hL, hT6, a6, p6, b6, q6⟩ := hI.out.1.round (by have := H80.out; omega) HS3.out.2.1 HS3.out.1 G.out.1 G.out.2.1 G.out.2.2.1 G.out.2.2.2.1 G.out.2.2.2.2.1 G.out.2.2.2.2.2.1 G.out.2.2.2.2.2.2.1 G.out.2.2.2.2.2.2.2.1
              R.out.1 R.out.2.1 R.out.2.2.1 R.out.2.2.2.1 R.out.2.2.2.2.1 R.out.2.2.2.2.2.1 R.out.2.2.2.2.2.2.1 R.out.2.2.2.2.2.2.2.1 hB.out
            have HVL := Lib.hid (And.intro G.out.2.2.2.2.2.2.2.2 R.out.2.2.2.2.2.2.2.2)
            clear hB G R HS3 hI HP
            obtain ⟨mk, hmk⟩ : ∃ mk, toldM F2 f' = mk := ⟨_, rfl⟩
            have hF2 : F2 < 4294967296 := by have := hT6.lm; have := H80.out; omega
            have HT63 := Lib.hid (told7_M w.heap.size bi bm F2 hF2 M' f' wr hT6.i mk hmk)
            have H6 := Lib.hid (And.intro hL (And.intro hT6 (And.intro a6 (And.intro p6 (And.intro b6 (And.intro q6 hmk))))))
            have HF2 := Lib.hid hF2
            clear hL hT6 a6 p6 b6 q6 hmk hF2
            go_wp2_with fail
            refine HT63.out.mono ?_
            clear HT63
            rintro e w7 ⟨rfl, hs7⟩
            have HT73 := Lib.hid (refTold_M w.heap.size br F2 HF2.out sv' K' f' (by have := H6.out.2.1.lk; have := H80.out; omega) w7 (H6.out.2.1.r.same hs7) mk H6.out.2.2.2.2.2.2)
            have HS7 := Lib.hid hs7
            clear hs7
            go_wp2_with fail
            refine HT73.out.mono ?_
            clear HT73
            rintro e w8 ⟨rfl, hs8⟩
            have hs68 := HS7.out.trans hs8
            have h8 := H6.out.2.1.same hs68
            obtain ⟨ao, cr, hsv, hcr, hcrm⟩ := h8.r.form
            subst hsv
            obtain ⟨c0, c1, _, _⟩ := h8.r.cells
            have hlen := h8.i.r.same_len h8.r.r
            have hsum := h8.i.r.same_sum h8.r.r
            have hsm := rep_small h8.r.r
            have hKL : K'.length ≤ 81 := by have := h8.lk; have := H80.out; omega
            obtain ⟨kl, hkl⟩ : ∃ kl, kl = K'.length := ⟨_, rfl⟩
            obtain ⟨sz, hsz⟩ : ∃ sz, sz = sumK f' (K'.map Prod.fst) := ⟨_, rfl⟩
            rw [← hkl] at c1 hcr
            have hcri : (cr : Int) ≤ 9223372036854775807 := by unfold maxLen at hcrm; omega
            have HK := Lib.hid (show ∀ X, Step [] w8 X → X.cell? ⟨br, 0, none⟩ = some (.int .u32 (F2 : Int)) ∧ X.cell? ⟨br, 1, none⟩ = some (.slice ao kl cr) ∧ Step [] w8 X from fun X hs => ⟨step_cell hs c0, step_cell hs c1, hs⟩)
            have hsmall : sumK f' (K'.map Prod.fst) < 1000000000 := by omega
            have HC74 := Lib.hid (show ∀ X, Step [] w8 X → Calls Try.prog 74 #[.slice tq vl tc, .slice tq2 vl2 tc2] X fun e w' => e = .returned (.bool true) ∧ X = w' from fun X hs =>
              same_any w.heap.size w.heap.size 0 0 _ _ vals vals2 L H6.out.1 X ((H6.out.2.2.1.same hs68).same hs) ((H6.out.2.2.2.2.1.same hs68).same hs) ((H6.out.2.2.2.1.same hs68).same hs) ((H6.out.2.2.2.2.2.1.same hs68).same hs))
            have HC64 := Lib.hid (show ∀ X, Step [] w8 X → Calls Try.prog 64 #[.pointer (some ⟨bi, 0, none⟩)] X fun e w' => e = .returned (.int .u32 (F2 : Int)) ∧ w' = X from fun X hs => floor_any _ _ _ _ _ _ _ (h8.i.same hs))
            have HC65 := Lib.hid (show ∀ X, Step [] w8 X → Calls Try.prog 65 #[.pointer (some ⟨bi, 0, none⟩)] X fun e w' => e = .returned (.int .i64 (kl : Int)) ∧ w' = X from fun X hs => by
              have := waits7_any _ _ _ _ _ _ _ (h8.i.same hs)
              rw [hlen, ← hkl] at this
              exact this)
            have HC66 := Lib.hid (show ∀ X, Step [] w8 X → Calls Try.prog 66 #[.pointer (some ⟨bi, 0, none⟩)] X fun e w' => e = .returned (.int .i64 (sz : Int)) ∧ Step [] X w' from fun X hs => by
              have := bytes7_any _ _ _ _ _ _ _ (h8.i.same hs) (by rw [hsum]; exact hsmall)
              rw [hsum, ← hsz] at this
              exact this)
            have HC75 := Lib.hid (show ∀ X, Step [] w8 X → Calls Try.prog 75 #[.pointer (some ⟨br, 0, none⟩)] X fun e w' => e = .returned (.int .i64 (sz : Int)) ∧ X = w' from fun X hs => by
              have := refBytes_any _ _ _ _ _ _ (by omega) _ (h8.r.same hs) hsmall
              rw [← hsz] at this
              exact this)
            have H8 := Lib.hid h8
            have hkli : (kl : Int) ≤ 81 := by omega
            clear hs8 hs68 h8 hcrm c0 c1 hlen hsum hsm hKL hkl hsz hsmall H6 HVL HS7 HF2
            go_wp2_with fail
            go_region_held3 (fun X => X.cell? ⟨br, 0, none⟩ = some (.int .u32 (F2 : Int)) ∧ X.cell? ⟨br, 1, none⟩ = some (.slice ao kl cr) ∧ Step [] w8 X)
              (first | exact HK.out _ (Step.drew _) | assumption | exact HK.out _ (keepR2 (by assumption) (by assumption)))
              (first
                | (go_at_call 74; refine (HC74.out _ (keepL2 (by assumption))).mono ?_; rintro e w' ⟨rfl, rfl⟩)
                | (go_at_call 64; refine (HC64.out _ (keepL2 (by assumption))).mono ?_; rintro e w' ⟨rfl, rfl⟩)
                | (go_at_call 65; refine (HC65.out _ (keepL2 (by assumption))).mono ?_; rintro e w' ⟨rfl, rfl⟩)
                | (go_at_call 66; refine (HC66.out _ (keepL2 (by assumption))).mono ?_; rintro e w' ⟨rfl, hs66⟩)
                | (go_at_call 75; refine (HC75.out _ (keepL2 (by assumption))).mono ?_; rintro e w' ⟨rfl, rfl⟩))
            rename_i hHeld
            have H9 := Lib.hid (H8.out.same (keepL2 hHeld))
            clear hHeld HK HC74 HC64 HC65 HC66 HC75 hs66 H8 hjn' hjn
            go_wp2_with fail
            go_roundw
            case rel => exact ⟨k + 1, Ft2, tp2, by omega, by go_num, rfl, rfl, ⟨_, _, _, _, _, H9.out⟩⟩
            case measure => simp [intOf]; omega
    · obtain rfl : k = m80 := by omega
      clear hlt
      obtain ⟨F, sv, M, K, f, hT⟩ := hI.out
      have HT := Lib.hid hT
      rcases hT.tw with rfl | ⟨cj, cm, rfl, hne, ho⟩
      · clear hT hI
        go_wp2_with (go_at_call 69; refine (wakes7_any _).mono ?_; rintro e w9 ⟨rfl, hs9⟩; have H9 := Lib.hid (HT.out.st.trans hs9); clear hs9)
        go_ret
        exact ⟨rfl, H9.out⟩
      · have HF := Lib.hid (floor_o cj cm Ft wr ho)
        clear hT hI ho
        go_wp2_with (first
          | (go_at_call 64; refine HF.out.mono ?_; rintro e w9 ⟨rfl, hw⟩; cases hw.symm)
          | (go_at_call 69; refine (wakes7_any _).mono ?_; rintro e w9 ⟨rfl, hs9⟩; have H9 := Lib.hid (HT.out.st.trans hs9); clear hs9))
        go_ret
        exact ⟨rfl, H9.out⟩
end Go.Proofs.Ytbainekfbonbjaa
