/- IntakeTold: its walk. No statement is proved here; nothing is assumed. -/
import Derived.Test.YtbainekfbonbjaaIntO
import Derived.Test.YtbainekfbonbjaaRound
import Derived.Sort.CutIn
namespace Go.Proofs.Ytbainekfbonbjaa
open Go.RowKit Go.Shelf Go.Maps
set_option linter.unusedVariables false
set_option linter.unusedSimpArgs false
attribute [local go_sem] Oper.semAt_some

theorem step_trans_drew {W W' : World} (h : Step [] W.drew W') : Step [] W W' := (Step.drew W).trans h
theorem keepL {A B C D : Prop} {W4 X : World} (h : A ∧ B ∧ C ∧ D ∧ Step [] W4 X) : Step [] W4 X := h.2.2.2.2
theorem keepR {A B C D : Prop} {W4 X X' : World} (h : A ∧ B ∧ C ∧ D ∧ Step [] W4 X) (hs : Step [] X X') : Step [] W4 X' := h.2.2.2.2.trans hs
theorem told_stay {W5 W6 W7 : World} {n0 bx F' mk' : Nat} (hx : bx + 1 + 1 < n0) (h6 : Step [] W5 W6) (h7 : Step [bx + 1 + 1] W6 W7)
    (h : Boxed W5 (n0 + 1 + 1) 22 (.int .u32 (F' : Int)) ∧ Boxed W5 (n0 + 1 + 1 + 1) 28 (.func (.func 108) #[] #[.pointer (some ⟨n0 + 1 + 1, 0, none⟩)]) ∧ Boxed W5 (n0 + 1 + 1 + 1 + 1) 27 (.func (.func 89) #[] #[.pointer (some ⟨n0 + 1, 0, none⟩), .pointer (some ⟨n0, 0, none⟩)]) ∧ Boxed W5 (n0 + 1) 22 (.int .u32 (mk' : Int)) ∧ Boxed W5 n0 22 (.int .u32 (F' : Int))) :
    Boxed W7 (n0 + 1 + 1) 22 (.int .u32 (F' : Int)) ∧ (Boxed W7 (n0 + 1 + 1 + 1) 28 (.func (.func 108) #[] #[.pointer (some ⟨n0 + 1 + 1, 0, none⟩)]) ∧ Boxed W7 (n0 + 1 + 1 + 1 + 1) 27 (.func (.func 89) #[] #[.pointer (some ⟨n0 + 1, 0, none⟩), .pointer (some ⟨n0, 0, none⟩)])) ∧ (Boxed W7 (n0 + 1) 22 (.int .u32 (mk' : Int)) ∧ Boxed W7 n0 22 (.int .u32 (F' : Int))) := by
  obtain ⟨r1, r2, r3, r4, r5⟩ := h
  exact ⟨boxed_step (boxed_step r1 h6 (by simp)) h7 (by simp; omega), ⟨boxed_step (boxed_step r2 h6 (by simp)) h7 (by simp; omega), boxed_step (boxed_step r3 h6 (by simp)) h7 (by simp; omega)⟩, boxed_step (boxed_step r4 h6 (by simp)) h7 (by simp; omega), boxed_step (boxed_step r5 h6 (by simp)) h7 (by simp; omega)⟩
set_option maxRecDepth 100000 in
set_option maxHeartbeats 8000000 in
theorem told_walk13 (q : Option Addr) (N cap : Nat) (xs : List Nat) (hN : N = xs.length) (hx : ∀ x ∈ xs, x < 256) (w : World) (hr : Reads w (.slice q N cap) (u8s xs)) :
    Calls Try.prog 13 #[.slice q N cap] w fun e w' => e = .returned (.bool true) ∧ Step [] w w' := by
  have hNc : N ≤ cap ∧ cap ≤ maxLen := by
    obtain ⟨q', cap', h1, h2, h3⟩ := hr.form
    rw [u8s_length] at h1 h2
    injection h1 with e1 e2 e3
    subst e3
    omega
  have hNm : (N : Int) ≤ 9223372036854775807 := by unfold maxLen at hNc; omega
  have HR := Lib.hid (And.intro hr (And.intro hN hx))
  clear hr hN hx hNc
  have hmm := @run_makeMap Try.prog
  refine (callsIn_wide (n := 0)).1 (callsIn_of_wp_marks Try.func13 rfl trivial ?_ rfl)
  simp only [Try.ntmps13, List.size_toArray, List.length_cons, List.length_nil, Nat.reduceAdd, Nat.reduceSub, Array.replicate_succ, Array.replicate_zero, List.push_toArray, List.append_toArray, List.nil_append, List.cons_append]
  gi_wp2_with fail
  refine (inW (new7_any w)).mono ?_
  rintro e w1 ⟨bi, bm, rfl, hI, hs⟩
  have HI := Lib.hid hI
  have HS := Lib.hid hs
  clear hI hs
  gi_wp2_with fail
  obtain ⟨w2, hw2⟩ : ∃ w2, w2 = w1.alloc (.map #[] 0) := ⟨_, rfl⟩
  rw [← hw2]
  have hz : w.heap.size ≤ w1.heap.size := HS.out.size
  have hs2 : Step [] w1 w2 := by rw [hw2]; exact Step.alloc _ _
  have hbm : bm < w1.heap.size := by obtain ⟨_, _, hh⟩ := HI.out.m.block; exact heap_lt hh
  have h0 : TolS 60 w bi bm w1.heap.size 0 [] (fun _ => none) (fun _ => False) w2 :=
    ⟨HI.out.same hs2, Law7.start 60, by rw [hw2]; exact MapS.made w1, fun j => by simp, hz, by omega, HS.out.trans hs2⟩
  have H0 := Lib.hid h0
  obtain ⟨bt, hbt⟩ : ∃ bt, bt = w1.heap.size := ⟨_, rfl⟩
  rw [← hbt] at H0 ⊢
  clear h0 hs2 hw2 HI HS hbt hz hbm
  refine wpIn_loop (TolI q N cap bi bm bt w) (fun a _ => N - (intOf (a.tmps.getD 26 undef)).toNat) ?start ?round
  case start => exact TolI.intro 0 [] ⟨by omega, by omega⟩ H0.out (Mks.nil _ _) (by kernel_rfl) rfl
  case round =>
    rintro a W ⟨U, k, Ds, F, M, f, P, ⟨hkN, hk60⟩, hI, hM, rfl⟩
    simp only [tolFrame]
    clear H0 hmm
    have HI := Lib.hid (And.intro hI hM)
    clear hI hM
    by_cases hlt : k < N
    · obtain ⟨x, hxk⟩ : ∃ x, xs[k]? = some x := ⟨_, List.getElem?_eq_getElem (by rw [← HR.out.2.1]; exact hlt)⟩
      have hx256 : x < 256 := HR.out.2.2 x (List.mem_of_getElem? hxk)
      obtain ⟨g, off, cc, hv, hc1, hc2, hcell⟩ := (HR.out.1.same HI.out.1.st).cellAt (j := k) (x := .int .u8 (x : Int)) (by rw [u8s_get, hxk]; rfl)
      rw [u8s_length, ← HR.out.2.1] at hv hc1
      injection hv with e1 e2 e3
      subst e1
      subst e3
      have hsN : ((k : Int) < (N : Int)) = True := by simp; omega
      by_cases h60 : k = 60
      · have b60 : ((k : Int) == 60) = true := by simp; omega
        clear e2 hxk h60
        gi_wp2_with fail
        refine (inW (wakes7_any _)).mono ?_
        rintro e w9 ⟨rfl, hs9⟩
        have H9 := Lib.hid (And.intro (HI.out.1.st.trans hs9) (HI.out.2.same hs9))
        clear hs9
        gi_wp2_with fail
        refine leaves_marks (B := w.heap.size) (results_tmp rfl _ _) Ds _ H9.out.2.1 H9.out.2.2 ?_
        intro w' hc
        exact ⟨rfl, H9.out.1.calm hc (Nat.le_refl _)⟩
      have b60 : ((k : Int) == 60) = false := by simp; omega
      obtain ⟨n, hn⟩ : ∃ n, n = x % 60 := ⟨_, rfl⟩
      have hn60 : n < 60 := by omega
      have d1 : (x : Int) % 60 = (n : Int) := by omega
      have d2 : (x : Int).tmod 60 = (n : Int) := by rw [Int.tmod_eq_emod_of_nonneg (by omega)]; exact d1
      have d3 : IntKind.u32.wrap (n : Int) = (n : Int) := by rw [IntKind.wrap_u32]; omega
      have HK := Lib.hid (And.intro hkN (show k < 60 by omega))
      have HNN := Lib.hid hn60
      have hbd := HI.out.1.bound (by omega)
      obtain ⟨mk, hmk⟩ : ∃ mk, mk = toldM F f := ⟨_, rfl⟩
      have HT := Lib.hid (told7_M w.heap.size bi bm F (by omega) M f W HI.out.1.i mk hmk.symm)
      have HMK := Lib.hid hmk
      clear hn hxk hx256 e2 hc1 hc2 hbd hmk hkN hk60 h60 hn60
      gi_wp2_with fail
      refine (inW HT.out).mono ?_
      rintro e w3 ⟨rfl, hs3⟩
      have h3 := HI.out.1.same hs3
      have m3 := HI.out.2.same hs3
      obtain ⟨wt, hwt⟩ : ∃ wt, wt = M.length := ⟨_, rfl⟩
      have HW := Lib.hid (waits7_any w.heap.size bi bm F M f w3 h3.i)
      rw [← hwt] at HW
      have hsum : sumK f (M.map Prod.fst) < 1000000000 := by
        have h4 := sumP_le (told13 F f)
        have h5 := told13_bound h3.l (by omega)
        rw [h3.bytes (by omega)]
        omega
      obtain ⟨sz, hsz⟩ : ∃ sz, sz = sumK f (M.map Prod.fst) := ⟨_, rfl⟩
      have HB := Lib.hid (bytes7_any w.heap.size bi bm F M f w3 h3.i hsum)
      rw [← hsz] at HB
      have HE := Lib.hid (And.intro hwt (And.intro hsz hsum))
      have H3 := Lib.hid (And.intro h3 m3)
      clear HI HT hs3 h3 m3 hwt hsz hsum
      gi_wp2_with (first
        | (gi_at_call 65; refine (inW HW.out).mono ?_; rintro e w' ⟨rfl, hw⟩; cases hw.symm)
        | (gi_at_call 66; refine (inW HB.out).mono ?_; rintro e w4 ⟨rfl, hs4⟩; have H4 := Lib.hid hs4; clear hs4)
        | (gi_at_call 76; refine (inW (payload_any n (by have := HNN.out; omega) _)).mono ?_; rintro e w5 ⟨pv, rfl, ho5, hs5⟩; obtain ⟨pq, pn, pc, rfl⟩ := ho5.slice'; have H5 := Lib.hid (And.intro ho5 hs5); clear ho5 hs5)
        | fail)
      clear HW HB
      have h5 := (H3.out.1.same H4.out).same H5.out.2
      have m5 := (H3.out.2.same H4.out).same H5.out.2
      have hlen : pn = (payN n).length := by
        obtain ⟨q', c', h6, _⟩ := H5.out.1.form
        injection h6 with e1 e2 e3
        rw [e2, u8s_length]
      have HT := Lib.hid (take13 (by omega) n HNN.out pq pn pc hlen h5 H5.out.1.reads)
      have H6 := Lib.hid (And.intro h5 m5)
      clear h5 m5 hlen
      refine (inW HT.out).mono ?_
      clear HT
      rintro e w6 ⟨ov, vals, fate, F', M', f', rfl, g1, g2, g3, g4, g5⟩
      obtain ⟨oq, oc, rfl, _, _⟩ := g1.form
      obtain ⟨ol, hol⟩ : ∃ ol, ol = vals.length := ⟨_, rfl⟩
      rw [← hol]
      obtain ⟨mk', hmk'⟩ : ∃ mk', mk' = toldM F' f' := ⟨_, rfl⟩
      have hF' : F' < 4294967296 := by have := g3.le; omega
      have HT := Lib.hid (told7_M w.heap.size bi bm F' hF' M' f' w6 g2 mk' hmk'.symm)
      have f1 : ((fate : Int) < 1) = False := by rcases g5 with h | h <;> simp <;> omega
      have f2 : ((3 : Int) < (fate : Int)) = False := by rcases g5 with h | h <;> simp <;> omega
      have f1n : (fate < 1) = False := by rcases g5 with h | h <;> simp <;> omega
      have f2n : (3 < fate) = False := by rcases g5 with h | h <;> simp <;> omega
      have H7 := Lib.hid (And.intro g2 (And.intro g3 (And.intro g4 (And.intro g5 (And.intro hol hmk')))))
      clear g1 g2 g3 g4 g5 hol hmk' hF'
      gi_wp2_with fail
      refine (inW HT.out).mono ?_
      clear HT
      rintro e w7 ⟨rfl, hs7⟩
      have HS7 := Lib.hid hs7
      clear hs7
      gi_upto_region 14 with (fail)
      gi_cut [97] from 155 (fun v W' => v = .bool false ∧ Step [] w7 W')
      case first =>
        rcases H7.out.2.2.2.1 with hA | hA
        · have e1 : fate = 1 := hA.1
          clear hA HE H3 H4 H5 H6 H7 f1 f2 f1n f2n
          subst e1
          have hu : ∀ b : Bool, (some undef = some (Value.bool b)) = False := fun b => by simp [undef]
          gi_wp2_with fail
          gi_meet
          case rel => exact ⟨rfl, Step.refl _ _⟩
        · obtain ⟨e1, _, _, e3, e4, e5, e6, e7⟩ := hA
          have e8 : ((fate : Int) == 1) = false := by rcases e1 with h | h <;> subst h <;> rfl
          have e8a : ((fate : Int) = 1) = False := by rcases e1 with h | h <;> subst h <;> simp
          have e8b : (fate = 1) = False := by rcases e1 with h | h <;> subst h <;> simp
          have e8d : ((fate : Int) != 1) = true := by rcases e1 with h | h <;> subst h <;> rfl
          have hu : ∀ b : Bool, (some undef = some (Value.bool b)) = False := fun b => by simp [undef]
          have e9 : ol = 0 := by rw [H7.out.2.2.2.2.1, e3]; rfl
          have e10 : mk' = mk := by rw [H7.out.2.2.2.2.2, HMK.out, e4, e6]
          have h7 := (H6.out.1.same (show Step [] w5 w7 by rw [← e7]; exact HS7.out)).i
          have HW := Lib.hid (waits7_any w.heap.size bi bm F M f w7 h7)
          rw [← HE.out.1] at HW
          have HB := Lib.hid (bytes7_any w.heap.size bi bm F M f w7 h7 HE.out.2.2)
          rw [← HE.out.2.1] at HB
          clear e1 e3 e5 e6 e7 h7 HE H3 H4 H5 H6 H7
          subst e9
          subst e10
          subst e4
          gi_wp2_with (first
            | (gi_at_call 65; refine (inW HW.out).mono ?_; rintro e w' ⟨rfl, hw⟩; cases hw.symm)
            | (gi_at_call 66; refine (inW HB.out).mono ?_; rintro e w8 ⟨rfl, hs8⟩; have H8 := Lib.hid hs8; clear hs8)
            | fail)
          gi_meet
          case rel => exact ⟨rfl, H8.out⟩
      case rest =>
        obtain ⟨rfl, hs8⟩ := hcut
        have HS8 := Lib.hid hs8
        clear hs8
        gi_upto_if 99 with (fail)
        gi_cut [] from 155 (fun W' => ∃ P', TolS 60 w bi bm bt F' M' f' P' W' ∧ Mks w.heap.size Ds W')
        case first =>
          rcases H7.out.2.2.2.1 with hA | hA
          · obtain ⟨e1, _, _, hP, _⟩ := hA
            have hst := H7.out.2.2.1.trans (HS7.out.trans HS8.out).nil_mono
            obtain ⟨w9, hup, h9, hs9⟩ := H6.out.1.took (by omega) HNN.out hst ((H7.out.1.same HS7.out).same HS8.out) H7.out.2.1 hP
            have H9 := Lib.hid (And.intro h9 ((H6.out.2.same hst).same hs9))
            clear hP hst h9 hs9 HE H3 H4 H5 H6 H7 f1 f2 f1n f2n
            subst e1
            gi_wp2_with fail
            gi_meet
            case rel => exact ⟨_, H9.out⟩
          · obtain ⟨e1, _, _, e3, e4, e5, e6, e7⟩ := hA
            have e8a : ((fate : Int) = 1) = False := by rcases e1 with h | h <;> subst h <;> simp
            have e8b : (fate = 1) = False := by rcases e1 with h | h <;> subst h <;> simp
            have e8d : ((fate : Int) == 1) = false := by rcases e1 with h | h <;> subst h <;> rfl
            have h9 : TolS 60 w bi bm bt F' M' f' P wc ∧ Mks w.heap.size Ds wc := by
              rw [e4, e5, e6]
              have hs : Step [] w5 wc := by rw [← e7]; exact HS7.out.trans HS8.out
              exact ⟨H6.out.1.same hs, H6.out.2.same hs⟩
            have H9 := Lib.hid h9
            clear h9 e1 e3 e4 e5 e6 e7 HE H3 H4 H5 H6 H7
            gi_wp2_with fail
            gi_meet
            case rel => exact ⟨_, H9.out⟩
        case rest =>
          obtain ⟨P', h9⟩ := hcut
          have H9 := Lib.hid h9
          have HMK' := Lib.hid H7.out.2.2.2.2.2
          clear h9 HS7 HS8 HE H3 H4 H5 H6 H7 f1 f2 f1n f2n HMK
          have hmm := @run_makeMap Try.prog
          gi_wp2_with (first
            | (gi_at_call 28; refine (inW (all_any _ _ _)).mono ?_; rintro e w' ⟨rfl, rfl⟩)
            | (gi_at_call 18; refine (inW (safe_any _ _ _)).mono ?_; rintro e w' ⟨rfl, rfl⟩)
            | fail)
          clear hmm
          have hb0 := (Beh.start H9.out.1 H9.out.2).same (Step.alloc (S := []) _ (.cells #[.int .u32 0, .int .u32 (F' : Int)] 25))
          have hsp := World.alloc_heap_new (((wc.alloc (.map #[] 0)).alloc (.cells #[.map (some wc.heap.size)] 121)).alloc (.cells #[.int .i64 0] 3)) (.cells #[.int .u32 0, .int .u32 (F' : Int)] 25)
          simp only [World.size_alloc] at hsp
          obtain ⟨w10, hw10⟩ : ∃ w10, w10 = (((wc.alloc (.map #[] 0)).alloc (.cells #[.map (some wc.heap.size)] 121)).alloc (.cells #[.int .i64 0] 3)).alloc (.cells #[.int .u32 0, .int .u32 (F' : Int)] 25) := ⟨_, rfl⟩
          rw [← hw10] at hb0 hsp ⊢
          have hz10 : w10.heap.size = wc.heap.size + 4 := by rw [hw10]; simp
          have hbw : w.heap.size ≤ w10.heap.size := hb0.t.st.size
          have hDs : ∀ D ∈ Ds, D < w10.heap.size := hb0.m.lt
          obtain ⟨bx, hbx⟩ : ∃ bx, bx = wc.heap.size := ⟨_, rfl⟩
          rw [← hbx] at hb0 hsp hz10 ⊢
          have hF60 : F' ≤ 60 := H9.out.1.l.le
          have H10 := Lib.hid (And.intro hb0 (And.intro hsp hF60))
          clear hw10 hbx
          refine range_outer1 (v := fun x : Nat => .int .u32 (x : Int)) [] rfl enters87 (all_gives 0 F' (bx + 1 + 1 + 1) (by omega) (by omega)) (by simp) rfl rfl
            (fun pre W => Beh 60 w bi bm bt F' M' f' P' Ds bx (fun j => j ∈ pre) 0 W ∧ W.heap[bx + 1 + 1 + 1]? = some (spanObj 0 F'))
            (fun _ _ _ => False) (fun s A B h hc => ⟨h.1.calm hc hbw hDs, obj_calm h.2 hc rfl⟩) (fun _ => abide_false _) (fun pre W h => h.2) ⟨hb0.congr (fun j => by simp), hsp⟩
            ?body1 ?done1 ?stop1
          case body1 =>
            rintro l pre y W4 hl _ ⟨hb4, hsp4⟩ hadm
            have hy := range'_mem (hadm.subset (show y ∈ pre ++ [y] by simp))
            have hpre : ∀ j, j ∈ pre → j < 60 := fun j hj => by have := range'_mem (hadm.subset (List.mem_append_left _ hj)); omega
            obtain ⟨W5, hup, hb5, hs5⟩ := hb4.put 60 (by omega) hpre (k := y) (by omega)
            have hc4 := hb4.hv.cell
            have hnb : ¬ bx + 1 + 1 + 1 = bx := by omega
            have H5 := Lib.hid (And.intro (hb5.congr (fun j => (mem_snoc (pre := pre) (x := y) (j := j)).symm)) (And.intro (obj_step hsp4 hs5 (by simpa using hnb)) hs5.book))
            simp only [frame1]
            clear hb4 hsp4 hb5 hs5 hb0 hsp hadm
            gi_wp2_with fail
            exact ⟨H5.out.2.2, H5.out.1, H5.out.2.1⟩
          case stop1 =>
            rintro D c pre W hD h hd
            exact h.elim
          case done1 =>
            rintro D1 ys W4 hD1 rfl ⟨hb4, hsp4⟩ hd1
            have hb5 := hb4.marks (by omega) hd1 (fun hm => by have := hDs D1 hm; omega)
            have H11 := Lib.hid (hb5.congr (Q' := fun j => j < F') (fun j => by rw [List.mem_range'_1]; omega))
            have HD1 := Lib.hid hD1
            clear hb4 hsp4 hb5 hb0 hsp H10 hd1 hbw hDs hz10 hD1
            gi_wp2_with (first
              | (gi_at_call 29; refine (inW (told_any _ _ _)).mono ?_; rintro e w12 ⟨rfl, hw12⟩; have HW12 := Lib.hid hw12; clear hw12)
              | (gi_at_call 18; refine (inW (safe_any _ _ _)).mono ?_; rintro e w' ⟨rfl, rfl⟩)
              | fail)
            obtain ⟨hz12, hs12, t0, t1, t2, t3, t4⟩ := told_blocks _ _ _ _ HW12.out
            obtain ⟨n0, hn0⟩ : ∃ n0, n0 = W4.heap.size := ⟨_, rfl⟩
            rw [← hn0] at hz12 t0 t1 t2 t3 t4 ⊢
            have hmk : mk' < 4294967296 := by rw [HMK'.out]; exact toldM_lt _ _
            have hb12 := H11.out.same hs12
            have hxn : bx + 1 + 1 < n0 := by rw [hn0]; exact heap_lt (show W4.heap[bx + 1 + 1]? = _ from H11.out.bs)
            have hDs2 : ∀ D ∈ D1 :: Ds, D < w12.heap.size := hb12.m.lt
            have hbw2 : w.heap.size ≤ w12.heap.size := hb12.t.st.size
            have hL : told13 F' f' = toldL F' mk' := by rw [HMK'.out]; rfl
            have HL := Lib.hid hL
            have HXN := Lib.hid hxn
            clear HW12 hs12 hn0 hL
            refine range_outer1 (v := fun x : Nat => .int .u32 (x : Int)) [] rfl enters107 (told_gives F' mk' n0 (by omega) hmk) (by simp) rfl rfl
              (fun pre W => Beh 60 w bi bm bt F' M' f' P' (D1 :: Ds) bx (fun j => j < F' ∨ j ∈ pre) (sumP pre) W ∧
                (Boxed W (n0 + 1 + 1) 22 (.int .u32 (F' : Int)) ∧ (Boxed W (n0 + 1 + 1 + 1) 28 (.func (.func 108) #[] #[.pointer (some ⟨n0 + 1 + 1, 0, none⟩)]) ∧ Boxed W (n0 + 1 + 1 + 1 + 1) 27 (.func (.func 89) #[] #[.pointer (some ⟨n0 + 1, 0, none⟩), .pointer (some ⟨n0, 0, none⟩)])) ∧ (Boxed W (n0 + 1) 22 (.int .u32 (mk' : Int)) ∧ Boxed W n0 22 (.int .u32 (F' : Int)))))
              (fun _ _ _ => False)
              (fun s A B h hc => ⟨h.1.calm hc hbw2 hDs2, boxed_calm h.2.1 hc, ⟨boxed_calm h.2.2.1.1 hc, boxed_calm h.2.2.1.2 hc⟩, boxed_calm h.2.2.2.1 hc, boxed_calm h.2.2.2.2 hc⟩)
              (fun _ => abide_false _) (fun pre W h => h.2) ⟨hb12.congr (fun j => by simp), t2, ⟨t3, t4⟩, t1, t0⟩
              ?body2 ?done2 ?stop2
            case body2 =>
              rintro l pre y W4 hl hlr ⟨hb4, r1, ⟨r2, r3⟩, r4, r5⟩ hadm
              have hysub : ∀ j, j ∈ pre ++ [y] → j < 60 := fun j hj => by
                have hj2 := hadm.subset hj
                rw [← HL.out] at hj2
                obtain ⟨p, hp⟩ := Option.isSome_iff_exists.1 ((told13_mem hb4.t.l (by omega) j).1 hj2)
                exact (hb4.t.l.own j p hp).2.2.2
              have hy := hysub y (by simp)
              have hpre : ∀ j, (j < F' ∨ j ∈ pre) → j < 60 := fun j hj => by
                rcases hj with hj | hj
                · omega
                · exact hysub j (List.mem_append_left _ hj)
              have hplen : pre.length ≤ 32 := by
                have h1 := hadm.length_le
                have h2 := toldL_len F' mk'
                simp at h1
                omega
              have hsum := sumP_le pre
              obtain ⟨s0, hs0⟩ : ∃ s0, s0 = sumP pre := ⟨_, rfl⟩
              rw [← hs0] at hb4 hsum
              obtain ⟨W5, hup, hb5, hs5⟩ := hb4.put 60 (by omega) hpre (k := y) (by omega)
              have hc4 := hb4.hv.cell
              have hc5 := hb5.bs.cell
              have hf5 := hb5.bs.frozen
              have hple := payN_len y
              have HY := Lib.hid hy
              have hwr : IntKind.i64.wrap ((s0 : Int) + ((payN y).length : Int)) = (s0 : Int) + ((payN y).length : Int) := by rw [IntKind.wrap_i64]; omega
              have H5 := Lib.hid (And.intro hb5 (And.intro hs5.book (And.intro hs0 (And.intro (boxed_step r1 hs5 (by simp; omega)) (And.intro (boxed_step r2 hs5 (by simp; omega)) (And.intro (boxed_step r3 hs5 (by simp; omega)) (And.intro (boxed_step r4 hs5 (by simp; omega)) (boxed_step r5 hs5 (by simp; omega)))))))))
              simp only [frame1]
              obtain ⟨lp, hlp⟩ : ∃ lp, lp = (payN y).length := ⟨_, rfl⟩
              rw [← hlp] at hwr
              have HLP := Lib.hid hlp
              clear hb4 r1 r2 r3 r4 r5 hb5 hs5 hb12 t0 t1 t2 t3 t4 hadm hysub hpre hsum hple hlp hs0
              gi_wp2_with fail
              refine wpIn_region_round (by kernel_rfl) (by kernel_rfl) (fun _ => True) ?_
              have hHeld : (fun _ : World => True) W5.drew := trivial
              refine wpAnyH_take (i := 1) (v := ?v1_1) rfl (by kernel_rfl) (by kernel_rfl) (by kernel_rfl) (fun _ _ _ h => h) (Or.inl ⟨by rfl, ?y1_1⟩) (by assumption) ?r1_1
              case y1_1 => ((try simp only [List.getElem_toArray, List.getElem_cons_succ, List.getElem_cons_zero]); intro w hSw; (try dsimp only at hSw); go_simp; first | done | with_reducible rfl)
              (try simp only [Act.put, List.getElem_toArray, List.getElem_cons_succ, List.getElem_cons_zero, List.setIfInBounds_toArray, List.set_cons_zero, List.set_cons_succ])
              have hc5d : W5.drew.cell? ⟨bx + 1 + 1, 0, none⟩ = some (.int .i64 (s0 : Int)) := hc5
              refine wpAnyH_ready (rs := [0, 2]) (by kernel_rfl) (by simp) ?_
              refine AllReadyH.cons (o := _) rfl (fun K hK => ?_) (AllReadyH.cons (o := _) rfl (fun K hK => ?_) AllReadyH.nil)
              · go_simp
                refine hK.out _ _ trivial (fun hHeld => ?_)
                clear hK K
                (try simp only [Act.put, List.getElem_toArray, List.getElem_cons_succ, List.getElem_cons_zero, List.setIfInBounds_toArray, List.set_cons_zero, List.set_cons_succ])
                refine wpAnyH_ready (rs := [2]) (by kernel_rfl) (by simp) ?_
                refine AllReadyH.cons (o := _) rfl (fun K hK => ?_) AllReadyH.nil
                go_simp
                refine (payload_any y (by have := HY.out; omega) _).mono ?_
                rintro e W6 ⟨pv, rfl, ho6, hs6⟩
                obtain ⟨pq6, pc6, rfl, _, _⟩ := ho6.form
                rw [u8s_length, ← HLP.out]
                have c6 := step_cell (step_trans_drew hs6) hc5
                have f6 : W6.frozen? ⟨bx + 1 + 1, 0, none⟩ = false := (boxed_step H5.out.1.bs (step_trans_drew hs6) (by simp)).frozen
                have H6 := Lib.hid (step_trans_drew hs6)
                clear ho6 hs6
                (try go_wp2_with fail)
                refine hK.out _ _ trivial (fun hHeld => ?_)
                clear hK K
                (try simp only [Act.put, List.getElem_toArray, List.getElem_cons_succ, List.getElem_cons_zero, List.setIfInBounds_toArray, List.set_cons_zero, List.set_cons_succ])
                refine wpAnyH_take (i := 3) (v := ?v3_2) rfl (by kernel_rfl) (by kernel_rfl) (by kernel_rfl) (fun _ _ _ h => h) (Or.inl ⟨by rfl, ?y3_2⟩) (by assumption) ?r3_2
                case y3_2 => ((try simp only [List.getElem_toArray, List.getElem_cons_succ, List.getElem_cons_zero]); intro w hSw; (try dsimp only at hSw); go_simp; first | done | with_reducible rfl)
                (try simp only [Act.put, List.getElem_toArray, List.getElem_cons_succ, List.getElem_cons_zero, List.setIfInBounds_toArray, List.set_cons_zero, List.set_cons_succ])
                refine wpAnyH_take (i := 4) (v := ?v4_3) rfl (by kernel_rfl) (by kernel_rfl) (by kernel_rfl) (fun _ _ _ h => h) (Or.inl ⟨by rfl, ?y4_3⟩) (by assumption) ?r4_3
                case y4_3 => ((try simp only [List.getElem_toArray, List.getElem_cons_succ, List.getElem_cons_zero]); intro w hSw; (try dsimp only at hSw); go_simp; first | done | with_reducible rfl)
                (try simp only [Act.put, List.getElem_toArray, List.getElem_cons_succ, List.getElem_cons_zero, List.setIfInBounds_toArray, List.set_cons_zero, List.set_cons_succ])
                refine wpAnyH_ready (rs := [5]) (by kernel_rfl) (by simp) ?_
                refine AllReadyH.cons (o := _) rfl (fun K hK => ?_) AllReadyH.nil
                go_simp
                refine hK.out _ _ trivial (fun hHeld => ?_)
                clear hK K
                (try simp only [Act.put, List.getElem_toArray, List.getElem_cons_succ, List.getElem_cons_zero, List.setIfInBounds_toArray, List.set_cons_zero, List.set_cons_succ])
                refine wpAnyH_done (by kernel_rfl) ?_ _
                have hsu := H5.out.1.sumUp H6.out H5.out.2.2.1 HLP.out
                have HSU := Lib.hid hsu
                clear hsu
                gi_wp2_with fail
                exact ⟨(H5.out.2.1.trans H6.out.book).trans HSU.out.2.book, HSU.out.1, told_stay HXN.out (H6.out) HSU.out.2 H5.out.2.2.2⟩
              · go_simp
                refine (payload_any y (by have := HY.out; omega) _).mono ?_
                rintro e W6 ⟨pv, rfl, ho6, hs6⟩
                obtain ⟨pq6, pc6, rfl, _, _⟩ := ho6.form
                rw [u8s_length, ← HLP.out]
                have c6 := step_cell (step_trans_drew hs6) hc5
                have f6 : W6.frozen? ⟨bx + 1 + 1, 0, none⟩ = false := (boxed_step H5.out.1.bs (step_trans_drew hs6) (by simp)).frozen
                have H6 := Lib.hid (step_trans_drew hs6)
                clear ho6 hs6
                (try go_wp2_with fail)
                refine hK.out _ _ trivial (fun hHeld => ?_)
                clear hK K
                (try simp only [Act.put, List.getElem_toArray, List.getElem_cons_succ, List.getElem_cons_zero, List.setIfInBounds_toArray, List.set_cons_zero, List.set_cons_succ])
                refine wpAnyH_take (i := 3) (v := ?v3_4) rfl (by kernel_rfl) (by kernel_rfl) (by kernel_rfl) (fun _ _ _ h => h) (Or.inl ⟨by rfl, ?y3_4⟩) (by assumption) ?r3_4
                case y3_4 => ((try simp only [List.getElem_toArray, List.getElem_cons_succ, List.getElem_cons_zero]); intro w hSw; (try dsimp only at hSw); go_simp; first | done | with_reducible rfl)
                (try simp only [Act.put, List.getElem_toArray, List.getElem_cons_succ, List.getElem_cons_zero, List.setIfInBounds_toArray, List.set_cons_zero, List.set_cons_succ])
                refine wpAnyH_ready (rs := [0]) (by kernel_rfl) (by simp) ?_
                refine AllReadyH.cons (o := _) rfl (fun K hK => ?_) AllReadyH.nil
                go_simp
                refine hK.out _ _ trivial (fun hHeld => ?_)
                clear hK K
                (try simp only [Act.put, List.getElem_toArray, List.getElem_cons_succ, List.getElem_cons_zero, List.setIfInBounds_toArray, List.set_cons_zero, List.set_cons_succ])
                refine wpAnyH_take (i := 4) (v := ?v4_5) rfl (by kernel_rfl) (by kernel_rfl) (by kernel_rfl) (fun _ _ _ h => h) (Or.inl ⟨by rfl, ?y4_5⟩) (by assumption) ?r4_5
                case y4_5 => ((try simp only [List.getElem_toArray, List.getElem_cons_succ, List.getElem_cons_zero]); intro w hSw; (try dsimp only at hSw); go_simp; first | done | with_reducible rfl)
                (try simp only [Act.put, List.getElem_toArray, List.getElem_cons_succ, List.getElem_cons_zero, List.setIfInBounds_toArray, List.set_cons_zero, List.set_cons_succ])
                refine wpAnyH_ready (rs := [5]) (by kernel_rfl) (by simp) ?_
                refine AllReadyH.cons (o := _) rfl (fun K hK => ?_) AllReadyH.nil
                go_simp
                refine hK.out _ _ trivial (fun hHeld => ?_)
                clear hK K
                (try simp only [Act.put, List.getElem_toArray, List.getElem_cons_succ, List.getElem_cons_zero, List.setIfInBounds_toArray, List.set_cons_zero, List.set_cons_succ])
                refine wpAnyH_done (by kernel_rfl) ?_ _
                have hsu := H5.out.1.sumUp H6.out H5.out.2.2.1 HLP.out
                have HSU := Lib.hid hsu
                clear hsu
                gi_wp2_with fail
                exact ⟨(H5.out.2.1.trans H6.out.book).trans HSU.out.2.book, HSU.out.1, told_stay HXN.out (H6.out) HSU.out.2 H5.out.2.2.2⟩
            case stop2 =>
              rintro D c pre W hD h hd
              exact h.elim
            case done2 =>
              rintro D2 ys W4 hD2 rfl ⟨hb4, _⟩ hd2
              have hb5 := hb4.marks (by omega) hd2 (fun hm => by have := hDs2 D2 hm; omega)
              rw [← HL.out] at hb5
              obtain ⟨MX, MT, x1, y1, x2, x3, x4, x5⟩ := hb5.lists (by omega)
              have hby := hb5.t.bytes (by omega)
              have hwt := hb5.t.waits (by omega)
              obtain ⟨s0, hs0⟩ : ∃ s0, s0 = sumP (told13 F' f') := ⟨_, rfl⟩
              have hs1 : s0 < 1000000000 := by
                have h4 := sumP_le (told13 F' f')
                have h5 := told13_bound hb5.t.l (by omega)
                omega
              rw [← hs0] at hb5 hby
              obtain ⟨lx, hlx⟩ : ∃ lx, lx = MX.length := ⟨_, rfl⟩
              obtain ⟨lw, hlw⟩ : ∃ lw, lw = M'.length := ⟨_, rfl⟩
              have hlb : M'.length ≤ 32 := (hb5.t.bound (by omega)).1
              have hlz : lx = F' + lw := by omega
              have HK26 := Lib.hid (show ∀ X, Step [] W4 X → (X.cell? ⟨bx + 1, 0, none⟩ = some (.map (some bx)) ∧ X.cell? ⟨bx + 1 + 1, 0, none⟩ = some (.int .i64 (s0 : Int)) ∧
                (Builtin.len_ #[121] 3 #[.map (some bx)]).run Try.prog X = .ok (.int .i64 (lx : Int)) X ∧ (Builtin.len_ #[121] 3 #[.map (some bt)]).run Try.prog X = .ok (.int .i64 (lx : Int)) X ∧ Step [] W4 X) from fun X hs =>
                ⟨step_cell hs hb5.hv.cell, step_cell hs hb5.bs.cell, by rw [hlx]; exact (x1.keep hs (by simp)).len Try.underlying121 3, by rw [hlx, x4]; exact (y1.keep hs (by simp)).len Try.underlying121 3, hs⟩)
              have HC66 := Lib.hid (show ∀ X, Step [] W4 X → Calls Try.prog 66 #[.pointer (some ⟨bi, 0, none⟩)] X fun e w' => e = .returned (.int .i64 (s0 : Int)) ∧ Step [] X w' from fun X hs => by
                have := bytes7_any w.heap.size bi bm F' M' f' X (hb5.t.i.same hs) (by rw [hby]; exact hs1)
                rwa [hby] at this)
              have HC65 := Lib.hid (show ∀ X, Step [] W4 X → Calls Try.prog 65 #[.pointer (some ⟨bi, 0, none⟩)] X fun e w' => e = .returned (.int .i64 (lw : Int)) ∧ X = w' from fun X hs => by
                rw [hlw]
                exact (waits7_any w.heap.size bi bm F' M' f' X (hb5.t.i.same hs)).mono fun e w' h => ⟨h.1, h.2.symm⟩)
              have H13 := Lib.hid (And.intro hb5 (And.intro y1 (And.intro x1 (And.intro x2 x3))))
              have v1 : IntKind.i64.wrap (F' : Int) = (F' : Int) := by rw [IntKind.wrap_i64]; omega
              have v2 : IntKind.i64.wrap ((lx : Int) - (F' : Int)) = (lw : Int) := by rw [IntKind.wrap_i64]; omega
              clear hb4 hb5 x1 y1 x2 x3 x4 x5 hby hwt hs0 hs1 hlx hlw hlz hb12 t0 t1 t2 t3 t4 hDs2 hbw2 hd2 hmk H11 HMK' HL hz12 HXN HD1
              gi_wp2_with fail
              refine wpIn_wide.2 ?_
              go_region_held3 (fun X => X.cell? ⟨bx + 1, 0, none⟩ = some (.map (some bx)) ∧ X.cell? ⟨bx + 1 + 1, 0, none⟩ = some (.int .i64 (s0 : Int)) ∧
                (Builtin.len_ #[121] 3 #[.map (some bx)]).run Try.prog X = .ok (.int .i64 (lx : Int)) X ∧ (Builtin.len_ #[121] 3 #[.map (some bt)]).run Try.prog X = .ok (.int .i64 (lx : Int)) X ∧ Step [] W4 X)
                (first | exact HK26.out _ (Step.drew _) | assumption | exact HK26.out _ (keepR (by assumption) (by assumption)))
                (first
                  | (go_at_call 66; refine (HC66.out _ (keepL (by assumption))).mono ?_; rintro e w' ⟨rfl, hs66⟩)
                  | (go_at_call 65; refine (HC65.out _ (keepL (by assumption))).mono ?_; rintro e w' ⟨rfl, rfl⟩))
              rename_i hHeld
              have hsA := keepL hHeld
              have HA := Lib.hid hsA
              obtain ⟨wB, hrun, hrg, hgr, hzB⟩ := (H13.out.2.1.keep hsA (by simp)).range (t := 121) (e := 3) Try.underlying121
              obtain ⟨r, hr⟩ : ∃ r, r = w'.heap.size := ⟨_, rfl⟩
              rw [← hr] at hrun hrg
              have HB := Lib.hid (And.intro hrg (And.intro (hsA.trans (Step.ofGrown hgr)) (show W4.heap.size ≤ r by rw [hr]; exact hsA.size)))
              clear hHeld hsA hrg hgr hzB hr HK26 HC66 HC65 v1 v2 hs66
              gi_wp2_with fail
              clear hrun
              gi_loopw [2, 21] (fun b i wr => ∃ L : Ents, b = .bool false ∧ Hid (RngV wr bt r MT L ∧ Step [] W4 wr)) (fun b i wr => wr.rangeLeft bt r)
              case atStart => exact ⟨MT, rfl, HB.out.1, HB.out.2.1⟩
              case round =>
                obtain ⟨L, rfl, hI⟩ := hrel
                rcases hI.out.1.next 0 with ⟨rfl, hnx⟩ | ⟨kk, v, W7, hm, hk7, hnx, hr7, hlt7, hg7, hz7, hen⟩
                · have hfin := (H13.out.1.t.same hI.out.2)
                  have mfin := (H13.out.1.m.same hI.out.2)
                  have HF := Lib.hid (And.intro hfin mfin)
                  clear hfin mfin hI
                  gi_wp2_with fail
                  have HK1 := Lib.hid (show k + 1 ≤ N ∧ k + 1 ≤ 60 by have := HK.out; omega)
                  refine ⟨TolI.intro (k + 1) (D2 :: D1 :: Ds) HK1.out HF.out.1 HF.out.2 (by kernel_rfl) rfl, ?_⟩
                  simp [intOf]
                  omega
                · have h7 : Step [] W4 W7 := hI.out.2.iter hg7 HB.out.2.2
                  have hl := look_one (H13.out.2.2.1.keep h7 (by simp)) H13.out.2.2.2.1 hk7 (H13.out.2.2.2.2 kk (List.mem_map.2 ⟨_, hI.out.1.sub _ hm, rfl⟩))
                  have hc := (H13.out.1.same h7).hv.cell
                  have H7 := Lib.hid (And.intro hr7 (And.intro hlt7 h7))
                  clear hr7 hlt7 hm hg7 hz7 h7 hI
                  gi_wp2_with fail
                  go_roundw
                  case rel => exact ⟨_, rfl, H7.out.1, H7.out.2.2⟩
                  case measure => exact H7.out.2.1
    · have hk : k = N := by omega
      have hsN : ((k : Int) < (N : Int)) = False := by simp; omega
      gi_wp2_with fail
      refine (inW (wakes7_any _)).mono ?_
      rintro e w9 ⟨rfl, hs9⟩
      have H9 := Lib.hid (And.intro (HI.out.1.st.trans hs9) (HI.out.2.same hs9))
      clear hs9
      gi_wp2_with fail
      refine leaves_marks (B := w.heap.size) (results_tmp rfl _ _) Ds _ H9.out.2.1 H9.out.2.2 ?_
      intro w' hc
      exact ⟨rfl, H9.out.1.calm hc (Nat.le_refl _)⟩
end Go.Proofs.Ytbainekfbonbjaa
