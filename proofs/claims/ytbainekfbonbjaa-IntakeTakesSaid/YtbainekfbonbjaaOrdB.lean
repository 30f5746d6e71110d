/- IntakeOrder: the function 'on'. No statement is proved here; nothing is assumed. -/
import Derived.Test.YtbainekfbonbjaaOrdA
import Derived.Sort.CutIn
namespace Go.Proofs.Ytbainekfbonbjaa
open Go.RowKit Go.Shelf Go.Maps
set_option linter.unusedVariables false
set_option linter.unusedSimpArgs false
attribute [local go_sem] Oper.semAt_some

set_option maxRecDepth 100000 in
set_option maxHeartbeats 8000000 in
theorem on_any (w : World) (b3 b4 b5 bi bm bt F : Nat) (M : Ents) (f : Kept7) (P : Nat → Prop) (n : Nat) (hn : n < 40) (q : Option Addr) (len cap : Nat) (p : List Nat) (hlen : len = p.length) (hl : p.length ≤ 256) (W : World) (h : OrdS w b3 b4 b5 bi bm bt F F M f P W) (hr : Reads W (.slice q len cap) (u8s p)) (hp : ¬ P n → p = payN n) :
    Calls Try.prog 77 #[.int .u32 (n : Int), .slice q len cap, .pointer (some ⟨b3, 0, none⟩), .pointer (some ⟨b5, 0, none⟩), .pointer (some ⟨b4, 0, none⟩)] W fun e W' => e = .returned (.bool true) ∧ ∃ F' M' f' P', OrdS w b3 b4 b5 bi bm bt F' F' M' f' P' W' ∧ Step [bi, bm, bt, b4] W W' ∧ (∀ j, P' j ↔ (P j ∨ (j = n ∧ n < F + 16))) := by
  obtain ⟨s, hs⟩ : ∃ s : Bool, s = true ↔ P n := by
    by_cases hP : P n
    · exact ⟨true, by simp [hP]⟩
    · exact ⟨false, by simp [hP]⟩
  have hF : F ≤ 40 := h.t.l.le
  have HT := Lib.hid (take14 n hn q len cap p hlen hl h.t hr hp)
  have c3 := h.c3.cell
  have H := Lib.hid h
  have HN := Lib.hid hn
  have HS := Lib.hid hs
  have hwr : IntKind.u32.wrap ((F : Int) + 16) = (F : Int) + 16 := by rw [IntKind.wrap_u32]; omega
  clear h hr hp hlen hl hs hn
  refine (callsIn_wide (n := 0)).1 (callsIn_of_wp Try.func77 rfl trivial ?_ rfl)
  simp only [Try.ntmps77, List.size_toArray, List.length_cons, List.length_nil, Nat.reduceAdd, Nat.reduceSub, Array.replicate_succ, Array.replicate_zero, List.push_toArray, List.append_toArray, List.nil_append, List.cons_append]
  gi_wp2_with fail
  refine (inW HT.out).mono ?_
  clear HT c3
  rintro e W1 ⟨ov, vals, fate, F', M', f', L, rfl, g1, g2, g3, g4, g5, g6, g7, g8⟩
  obtain ⟨oq, oc, rfl, hoc1, hoc2⟩ := g1.form
  have hocm : (vals.length : Int) ≤ 9223372036854775807 := by unfold maxLen at hoc2; omega
  have hS1 : MapS W1 bt P := H.out.t.s.keep g4 (by simp; exact ⟨H.out.t.ne2, H.out.t.ne⟩)
  have c5 : W1.cell? ⟨b5, 0, none⟩ = some (.map (some bt)) := (boxed_step H.out.c5 g4 (fun hm => H.out.blocks.2.2 (by simp at hm ⊢; omega))).cell
  have c4 : W1.cell? ⟨b4, 0, none⟩ = some (.int .u32 (F : Int)) := (boxed_step H.out.c4 g4 (fun hm => H.out.blocks.2.1 (by simp at hm ⊢; omega))).cell
  have hlk := seen_look hS1 (k := n) (by have := HN.out; omega) s HS.out
  obtain ⟨ol, hol⟩ : ∃ ol, ol = vals.length := ⟨_, rfl⟩
  rw [← hol] at hocm ⊢
  have H7 := Lib.hid (And.intro g1 (And.intro g2 (And.intro g3 (And.intro g4 (And.intro g5 (And.intro g6 (And.intro g7 (And.intro g8 hol))))))))
  have HO := Lib.hid (And.intro hoc1 hoc2)
  clear g1 g2 g3 g4 g5 g6 g7 g8 hol hS1 hoc1 hoc2
  gi_upto_region 2 with (fail)
  gi_cut [37] from 65 (fun v W' => v = .bool false ∧ W1 = W')
  case first =>
    rcases H7.out.2.2.2.2.2.2.2.1 with hA | hA
    · have e1 : fate = 1 := hA.1
      have e2 : s = false := by
        cases e : s with
        | false => rfl
        | true => exact absurd (HS.out.1 e) hA.2.1
      have e3 : ((F : Int) + 16 ≤ (n : Int)) = False := by simp; have := hA.2.2.1; omega
      clear hA H H7
      subst e1
      subst e2
      simp only [seenV] at hlk
      have hu : ∀ b : Bool, (some undef = some (Value.bool b)) = False := fun b => by simp [undef]
      gi_wp2_with fail
      gi_meet
      case rel => exact ⟨rfl, rfl⟩
    · obtain ⟨a1, a2, -⟩ := hA
      have e8a : ((fate : Int) = 1) = False := by rcases a1 with h | h <;> subst h <;> simp
      have e8b : (fate = 1) = False := by rcases a1 with h | h <;> subst h <;> simp
      have e8d : ((fate : Int) == 1) = false := by rcases a1 with h | h <;> subst h <;> rfl
      have hu : ∀ b : Bool, (some undef = some (Value.bool b)) = False := fun b => by simp [undef]
      cases e : s with
      | true =>
        subst e
        clear a1 a2 H H7
        simp only [seenV] at hlk
        gi_wp2_with fail
        gi_meet
        case rel => exact ⟨rfl, rfl⟩
      | false =>
        subst e
        have e3 : ((F : Int) + 16 ≤ (n : Int)) = True := by
          simp
          rcases a2 with h | h
          · exact absurd (HS.out.2 h) (by simp)
          · omega
        clear a1 a2 H H7
        simp only [seenV] at hlk
        gi_wp2_with fail
        gi_meet
        case rel => exact ⟨rfl, rfl⟩
  case rest =>
    obtain ⟨rfl, rfl⟩ := hcut
    gi_upto_if 39 with (fail)
    gi_cut [] from 65 (fun W' => ∃ P', TolS 40 w bi bm bt F' M' f' P' W' ∧ Step [bi, bm, bt] W W' ∧ OwnAt W.heap.size W' 71 (.slice oq ol oc) vals ∧ Pays w.heap.size W' vals L ∧ ∀ j, P' j ↔ (P j ∨ (j = n ∧ n < F + 16)))
    case first =>
      obtain ⟨g1, g2, g3, g4, g5, g6, g7, g8, hol⟩ := H7.out
      rw [← hol] at g1
      rcases g8 with hA | hA
      · obtain ⟨a1, a2, a3, hP⟩ := hA
        obtain ⟨W2, hup, h2, hs2⟩ := H.out.t.took (by omega) HN.out g4 g2 g3 hP
        obtain ⟨es, c, hbt⟩ := (H.out.t.s.keep g4 (show bt ∉ [bi, bm] by simp; exact ⟨H.out.t.ne2, H.out.t.ne⟩)).block
        have hne : ∀ i ∈ [bt], ∀ cur e, W1.heap[i]? ≠ some (.cells cur e (0, 0)) := fun i hi cur e hc => by simp at hi; subst hi; rw [hbt] at hc; cases hc
        have H2 := Lib.hid (show (TolS 40 w bi bm bt F' M' f' (fun j => j = n ∨ P j) W2 ∧ Step [bi, bm, bt] W W2 ∧ OwnAt W.heap.size W2 71 (.slice oq ol oc) vals ∧ Pays w.heap.size W2 vals L ∧ ∀ j, (j = n ∨ P j) ↔ (P j ∨ (j = n ∧ n < F + 16))) from
          ⟨h2, (g4.mono (fun i hi _ => by simp at hi ⊢; omega)).trans' hs2 (fun _ h _ => h) (fun i hi _ => by simp at hi ⊢; omega), g1.apart hs2 (fun i hi cur => hne i hi cur 71), g5.apart hs2 (fun i hi cur => hne i hi cur 5), fun j => by
            constructor
            · rintro (e | e)
              · exact .inr ⟨e, a3⟩
              · exact .inl e
            · rintro (e | e)
              · exact .inr e
              · exact .inl e.1⟩)
        clear g1 g2 g3 g4 g5 g6 g7 hol a2 a3 hP h2 hs2 hbt hne H H7 hlk c4
        subst a1
        gi_wp2_with fail
        gi_meet
        case rel => exact ⟨_, H2.out⟩
      · obtain ⟨a1, a2, a3, a4, a5, a6, a7⟩ := hA
        have e8a : ((fate : Int) = 1) = False := by rcases a1 with h | h <;> subst h <;> simp
        have e8b : (fate = 1) = False := by rcases a1 with h | h <;> subst h <;> simp
        have e8d : ((fate : Int) == 1) = false := by rcases a1 with h | h <;> subst h <;> rfl
        have H2 := Lib.hid (show (TolS 40 w bi bm bt F' M' f' P W1 ∧ Step [bi, bm, bt] W W1 ∧ OwnAt W.heap.size W1 71 (.slice oq ol oc) vals ∧ Pays w.heap.size W1 vals L ∧ ∀ j, P j ↔ (P j ∨ (j = n ∧ n < F + 16))) from
          ⟨by rw [a4, a5, a6, a7]; exact H.out.t, by rw [a7]; exact Step.refl _ _, g1, g5, fun j => by
            constructor
            · exact .inl
            · rintro (e | ⟨e, e2⟩)
              · exact e
              · rcases a2 with h | h
                · rw [e]; exact h
                · omega⟩)
        clear g1 g2 g3 g4 g5 g6 g7 hol a1 a2 a3 a4 a5 a6 a7 H H7 hlk c4
        gi_wp2_with fail
        gi_meet
        case rel => exact ⟨_, H2.out⟩
    case rest =>
      obtain ⟨P', k1, k2, k3, k4, k5⟩ := hcut
      have hord : OrdS w b3 b4 b5 bi bm bt F' F M' f' P' wc := by
        have := H.out.turn (F' := F') (M' := M') (f' := f') (P' := P') k2 (fun i hi => hi) k1
        exact this
      have hlen : ol = L.length := by rw [H7.out.2.2.2.2.2.2.2.2]; exact H7.out.2.2.2.2.1.1
      have HX := Lib.hid (And.intro H7.out.2.2.2.2.2.1 (And.intro H7.out.2.2.2.2.2.2.1 (And.intro H7.out.2.2.1 (And.intro hlen H7.out.2.2.2.2.2.2.2.2))))
      have H2 := Lib.hid (And.intro hord (And.intro k2 (And.intro k3 (And.intro k4 k5))))
      clear k1 k2 k3 k4 k5 hord hlen H H7 hlk c4 c5 hwr HS
      gi_wp2_with fail
      have hol : ol ≤ 40 := by have h1 := HX.out.1; have h2 := HX.out.2.2.1.le; have h3 := HX.out.2.2.2.1; omega
      gi_loopw [7, 44] (fun b i wr => ∃ j : Nat, b = .bool false ∧ j ≤ ol ∧ i = .int .i64 (j : Int) ∧ Hid (OrdS w b3 b4 b5 bi bm bt F' (F + j) M' f' P' wr ∧ Step [bi, bm, bt, b4] W wr ∧ OwnAt W.heap.size wr 71 (.slice oq ol oc) vals ∧ Pays w.heap.size wr vals L)) (fun b i wr => ol - (intOf i).toNat)
      case atStart => exact ⟨0, rfl, by omega, rfl, H2.out.1, H2.out.2.1.mono (fun i hi _ => by simp at hi ⊢; omega), H2.out.2.2.1, H2.out.2.2.2.1⟩
      case round =>
        obtain ⟨j, rfl, hj, rfl, hI⟩ := hrel
        obtain ⟨m, hm⟩ : ∃ m, m = F + j := ⟨_, rfl⟩
        by_cases hlt : j < ol
        · have sl : ((j : Int) < (ol : Int)) = True := by simp; omega
          obtain ⟨u, hu⟩ : ∃ u, vals[j]? = some u := ⟨_, List.getElem?_eq_getElem (by rw [← HX.out.2.2.2.2]; exact hlt)⟩
          obtain ⟨pl, hpl⟩ : ∃ pl, L[j]? = some pl := ⟨_, List.getElem?_eq_getElem (by rw [← HX.out.2.2.2.1]; exact hlt)⟩
          obtain rfl := HX.out.2.1 j pl hpl
          have hpay := hI.out.2.2.2.2 j u _ hu hpl
          rw [← hm] at hpay
          obtain ⟨g, off, cc, hv, hc1, hc2, hcell⟩ := hI.out.2.2.1.at hu
          rw [← HX.out.2.2.2.2] at hv hc1
          injection hv with e1 e2 e3
          subst e1
          subst e3
          obtain ⟨uq, un, uc, rfl⟩ := hpay.1.slice'
          have hm40 : m < 40 := by have h1 := HX.out.1; have h2 := HX.out.2.2.1.le; have h3 := HX.out.2.2.2.1; omega
          have c4 := hI.out.1.c4.cell
          rw [← hm] at c4
          have hw1 : IntKind.u32.wrap ((m : Int) + 1) = ((m : Int) + 1) := by rw [IntKind.wrap_u32]; omega
          have hw2 : IntKind.i64.wrap ((j : Int) + 1) = ((j : Int) + 1) := by rw [IntKind.wrap_i64]; omega
          have hjc : (j : Int) < (ol : Int) := by omega
          have HI := Lib.hid hI.out
          have HP := Lib.hid hpay
          have HM := Lib.hid (And.intro hm hm40)
          clear hI hpay hu hpl hm hm40 e2 hc1 hc2
          gi_wp2_with fail
          refine (inW (payload_any m (by have := HM.out; omega) _)).mono ?_
          rintro e W5 ⟨v5, rfl, ho5, hs5⟩
          obtain ⟨q5, n5, c5', rfl⟩ := ho5.slice'
          have HE := Lib.hid (equalB_any (.slice uq un uc) (.slice q5 n5 c5') (payN m) HP.out.2.2 W5 (HP.out.same hs5).1.reads ho5.reads)
          have h5 := HI.out.1.same hs5
          have c45 := h5.c4.cell
          have f45 := h5.c4.frozen
          rw [show F + j = m from HM.out.1.symm] at c45
          have H5 := Lib.hid (And.intro h5 (And.intro (HI.out.2.1.trans hs5.nil_mono) (And.intro (HI.out.2.2.1.same hs5) (HI.out.2.2.2.same hs5))))
          clear ho5 hs5 h5 c4 hcell
          gi_wp2_with (first | (gi_at_call 78; refine (inW HE.out).mono ?_; rintro e w' ⟨rfl, rfl⟩) | fail)
          obtain ⟨q1, q2, q3⟩ := H5.out.1.step4 (m + 1)
          rw [show ((m + 1 : Nat) : Int) = (m : Int) + 1 by push_cast; rfl] at q1 q2
          have H6 := Lib.hid (And.intro q1 (And.intro (H5.out.2.1.trans' q2 (fun _ h _ => h) (fun i hi _ => by simp at hi ⊢; omega)) (And.intro (H5.out.2.2.1.apart q2 (fun i hi cur => q3 i hi cur 71 (by decide))) (H5.out.2.2.2.apart q2 (fun i hi cur => q3 i hi cur 5 (by decide))))))
          clear q1 q2 q3 H5 HE c45 f45
          try gi_wp2_with fail
          go_roundw
          case rel => exact ⟨j + 1, rfl, by omega, by go_num, by rw [show F + (j + 1) = m + 1 by have := HM.out.1; omega]; exact H6.out⟩
          case measure => simp [intOf]; omega
        · have hjo : j = ol := by omega
          have sl : ((j : Int) < (ol : Int)) = False := by simp; omega
          have hFm : F + j = F' := by have h1 := HX.out.1; have h3 := HX.out.2.2.2.1; omega
          have ho := hI.out.1
          rw [hFm] at ho
          have c3 := ho.c3.cell
          have c4 := ho.c4.cell
          have Q64 := Lib.hid (fun k => (floor_any w.heap.size bi bm F' M' f' (wr.drewN k) (ho.t.i.same (Step.drewN wr k))))
          have Q65 := Lib.hid (fun k => (waits7_any w.heap.size bi bm F' M' f' (wr.drewN k) (ho.t.i.same (Step.drewN wr k))))
          have hM15 : M'.length ≤ 15 := by rw [ho.t.waits (by omega)]; exact told13_short ho.t.l (by omega)
          obtain ⟨lm, hlm⟩ : ∃ lm, lm = M'.length := ⟨_, rfl⟩
          rw [← hlm] at Q65 hM15
          have t1 : ((lm : Int) < 16) = True := by simp; omega
          have t2 : ((F' : Int) == (F' : Int)) = true := by simp
          have HF := Lib.hid (And.intro ho (And.intro hI.out.2.1 H2.out.2.2.2.2))
          clear ho hI hFm hjo hlm hM15
          gi_wp2_with fail
          gi_quiet ((first | (gi_at_call 64; with_reducible exact CallsIn.quiet_of_same (inW (Q64.out _))) | (gi_at_call 65; with_reducible exact CallsIn.quiet_of_same (inW (Q65.out _)))))
          gi_wp2_with fail
          refine bodyPost_ret (results_tmp rfl _ _ _) rfl ?_
          exact ⟨rfl, F', M', f', P', HF.out.1.same (Step.drewN _ _), HF.out.2.1.trans (Step.drewN _ _), HF.out.2.2⟩
end Go.Proofs.Ytbainekfbonbjaa
