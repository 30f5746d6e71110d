/- maps.Values over a map whose keys are numbers of 32 bits; intake: Bytes. No statement is proved here; nothing is assumed. -/
import Derived.Test.YtbainekfbonbjaaIntG
namespace Go.Proofs.Ytbainekfbonbjaa
open Go.RowKit Go.Shelf
set_option linter.unusedVariables false
set_option linter.unusedSimpArgs false
attribute [local go_sem] Oper.semAt_some

theorem enters116 : Enters Try.prog 116 := enters_of Try.func116 (by kernel_rfl) rfl
theorem values_any (bm : Nat) (w : World) : Calls Try.prog 102 #[.map (some bm)] w fun e w' => e = .returned (.func (.func 116) #[] #[.pointer (some ⟨w.heap.size, 0, none⟩)]) ∧ w.alloc (.cells #[.map (some bm)] 99) = w' := by
  go_enter Try.func102, Try.ntmps102
  go_wp2
  go_ret
  exact ⟨rfl, rfl⟩
set_option maxRecDepth 100000 in
set_option maxHeartbeats 2000000 in
theorem values_gives (B' bm b1 : Nat) (om : Obj) (hom : isBook om = false) (M : Ents) (I : Ents → World → Prop)
    (hI : ∀ L A C, I L A → Calm B' A C → I L C) (hR : ∀ L W, I L W → W.heap[bm]? = some om ∧ Boxed W b1 99 (.map (some bm)))
    (l : Nat) (rc : World → Prop) (Jx : Ents × (Nat × Value) → World → Prop) (W1 : World) (X1 : List Nat) (hsz : B' ≤ W1.heap.size) (hX : ∀ k ∈ X1, k < W1.heap.size) (hrc : ∀ A C, rc A → Calm W1.heap.size A C → rc C) (hrb : ∀ A C, rc A → BookX [] A C → rc C) (hJx : Abide W1.heap.size Jx)
    (hM : MapV W1 bm M)
    (hY : ∀ s W', (I s.1 W' ∧ s.2 ∈ s.1) → rc W' → Yields Try.prog l #[s.2.2] W' (fun e1 W'' => ((e1 = .returned (.bool true) ∧ I (delE s.1 s.2.1) W'' ∧ rc W'') ∨ (e1 = .returned (.bool false) ∧ Jx s W'')) ∧ BookX X1 W' W''))
    (h0 : I M W1) (hr0 : rc W1) :
    Calls Try.prog 116 (#[.func (.yield l) #[] #[]] ++ #[.pointer (some ⟨b1, 0, none⟩)]) W1 (fun e1 W' => (∃ v, e1 = .returned v) ∧ ((I [] W' ∧ rc W') ∨ ∃ s, Jx s W')) := by
  obtain ⟨k1, k2⟩ := hR _ _ h0
  have k3 := k2.cell
  have HIa := Lib.hid hI
  have HRa := Lib.hid hR
  have HRC := Lib.hid hrc
  have HY := Lib.hid hY
  have HX := Lib.hid (And.intro hX hsz)
  obtain ⟨W2, hrun, hrg, hgr, hz2⟩ := hM.range (t := 99) (e := 71) Try.underlying99
  have hs2 : Step [] W1 W2 := Step.ofGrown hgr
  have HI := Lib.hid (show I M W2 ∧ rc W2 from ⟨hI _ _ _ h0 (hs2.calm0), hrc _ _ hr0 hs2.calm0⟩)
  have HG := Lib.hid hrg
  have HZ := Lib.hid (show W1.heap.size < W2.heap.size by omega)
  obtain ⟨r, hr⟩ : ∃ r, r = W1.heap.size := ⟨_, rfl⟩
  have HRR := Lib.hid hr
  rw [← hr] at hrun HG
  clear hI hR hrc hrb hJx hY hX hsz h0 hr0 k1 k2 hs2 hrg hgr hz2 hr hM
  refine (callsIn_wide (n := 0)).1 (callsIn_of_wp Try.func116 rfl trivial ?_ rfl)
  simp only [Try.ntmps116, List.size_toArray, List.length_cons, List.length_nil, Nat.reduceAdd, Nat.reduceSub, Array.replicate_succ, Array.replicate_zero, List.push_toArray, List.append_toArray, List.nil_append, List.cons_append]
  gi_wp2_with fail
  clear hrun k3
  gi_loopw [4] (fun i wr => ∃ L : Ents, i = i ∧ Hid ((I L wr ∧ rc wr) ∧ RngV wr bm r M L)) (fun i wr => wr.rangeLeft bm r)
  case atStart => exact ⟨M, rfl, HI.out, HG.out⟩
  case round =>
    obtain ⟨L, _, hI⟩ := hrel
    clear HI HG
    rcases hI.out.2.next 0 with ⟨rfl, hnx⟩ | ⟨k, v, W3, hm, hk, hnx, hr3, hlt, hg3, hz3, hen⟩
    · gi_wp2
      go_end0
      exact ⟨⟨_, rfl⟩, .inl hI.out.1⟩
    · obtain ⟨ob, hob, hbk⟩ := hI.out.2.iter
      have hc3 : Calm W1.heap.size wr W3 := Calm.iter hg3 (by rw [HRR.out]; exact Nat.le_refl _) hob hbk
      have hI3 : I L W3 := HIa.out _ _ _ hI.out.1.1 (hc3.mono HX.out.2)
      have hrc3 : rc W3 := HRC.out _ _ hI.out.1.2 hc3
      obtain ⟨fn, tmps, assign, body, hy, hRR⟩ := HY.out (L, (k, v)) W3 ⟨hI3, hm⟩ hrc3
      have H3 := Lib.hid (And.intro hr3 (And.intro hlt (And.intro hm (HRa.out _ _ hI3))))
      obtain ⟨ob3, hob3, hbk3⟩ := hr3.iter
      have HO3 := Lib.hid (And.intro hob3 hbk3)
      clear hr3 hlt hm hg3 hz3 hob hbk hc3 hI3 hrc3 hob3 hbk3
      gi_wp2_with fail
      clear hnx hen
      refine hRR.mono ?_
      rintro e1 W4 ⟨(⟨rfl, hp, hrc4⟩ | ⟨rfl, hjx⟩), hb4⟩
      · have HP := Lib.hid (And.intro (And.intro hp hrc4) hb4)
        clear hp hrc4 hb4 hRR hy
        have e1 : W4.heap[bm]? = W3.heap[bm]? := ((HRa.out _ _ HP.out.1.1).1).trans H3.out.2.2.2.1.symm
        have e2 : W4.heap[r]? = W3.heap[r]? := (HP.out.2 r ob3 HO3.out.1 (held_of_book HO3.out.2) (fun hm => by have := HX.out.1 r hm; have := HRR.out; omega)).trans HO3.out.1.symm
        have h4 := H3.out.1.blocks e1 e2
        have h5 : W4.rangeLeft bm r = W3.rangeLeft bm r := by simp only [World.rangeLeft, e1, e2]
        have H45 := Lib.hid (And.intro h4 h5)
        clear e1 e2 h4 h5
        gi_wp2
        go_roundw
        case rel => exact ⟨_, trivial, HP.out.1, H45.out.1⟩
        case measure =>
          have h5 := H45.out.2
          have := H3.out.2.1
          omega
      · have HP := Lib.hid hjx
        clear hjx hb4 hRR hy
        gi_wp2
        refine bodyPost_ret (results_none rfl _ _ _) rfl ?_
        exact ⟨⟨_, rfl⟩, .inr ⟨_, HP.out⟩⟩

theorem sumK_perm {f : Kept7} {l l' : List Nat} (h : l.Perm l') : sumK f l = sumK f l' := by
  unfold sumK; exact (h.map _).sum_nat
theorem sumK_del {f : Kept7} {L : Ents} (hn : (L.map Prod.fst).Nodup) {k : Nat} {v : Value} (hm : (k, v) ∈ L) : ((f k).getD []).length + sumK f ((delE L k).map Prod.fst) = sumK f (L.map Prod.fst) := by
  have hp : (L.map Prod.fst).Perm (k :: (delE L k).map Prod.fst) := by
    refine perm_nodup hn ?_ fun j => ?_
    · rw [List.nodup_cons]
      exact ⟨fun h => (keys_delE.1 h).2 rfl, nodup_del hn k⟩
    · rw [List.mem_cons, keys_delE]
      constructor
      · intro h
        by_cases e : j = k
        · exact .inl e
        · exact .inr ⟨h, e⟩
      · rintro (rfl | h)
        · exact List.mem_map.2 ⟨_, hm, rfl⟩
        · exact h.1
  rw [sumK_perm hp]
  unfold sumK
  simp
/-- What Bytes goes along with. -/
def Byts (B : Nat) (w : World) (bm b1 b3 : Nat) (om : Obj) (M : Ents) (f : Kept7) (L : Ents) (W : World) : Prop :=
  W.heap[bm]? = some om ∧ Boxed W b1 99 (.map (some bm)) ∧ (L.map Prod.fst).Nodup ∧ (∀ q ∈ L, q ∈ M) ∧ Step [] w W ∧ ∃ n : Nat, Boxed W b3 3 (.int .i64 (n : Int)) ∧ n + sumK f (L.map Prod.fst) = sumK f (M.map Prod.fst)
set_option maxRecDepth 100000 in
set_option maxHeartbeats 2000000 in
theorem bytes7_any (B bi bm F : Nat) (M : Ents) (f : Kept7) (w : World) (h : IntM B w bi bm F M f) (hS : sumK f (M.map Prod.fst) < 1000000000) :
    Calls Try.prog 66 #[.pointer (some ⟨bi, 0, none⟩)] w fun e w' => e = .returned (.int .i64 (sumK f (M.map Prod.fst) : Int)) ∧ Step [] w w' := by
  obtain ⟨c0, c1, _⟩ := int_cells h.o
  have HN := Lib.hid (none_any bi F (some bm) w h.o)
  have H := Lib.hid (And.intro h hS)
  have c1' : ∀ o, (w.alloc o).cell? ⟨bi, 1, none⟩ = some (.map (some bm)) := fun o => step_cell (Step.alloc (S := []) _ _) c1
  clear h c0 hS
  refine (callsIn_wide (n := 0)).1 (callsIn_of_wp_marks Try.func66 rfl trivial ?_ rfl)
  simp only [Try.ntmps66, List.size_toArray, List.length_cons, List.length_nil, Nat.reduceAdd, Nat.reduceSub, Array.replicate_succ, Array.replicate_zero, List.push_toArray, List.append_toArray, List.nil_append, List.cons_append]
  gi_wp2_with (first | (gi_at_call 98; refine (inW HN.out).mono ?_; rintro e w' ⟨rfl, hw⟩; cases hw.symm) | (gi_at_call 102; refine (inW (values_any _ _)).mono ?_; rintro e w' ⟨rfl, rfl⟩))
  obtain ⟨w1, hw1⟩ : ∃ w1, w1 = (w.alloc (.cells #[.int .i64 0] 3)).alloc (.cells #[.map (some bm)] 99) := ⟨_, rfl⟩
  rw [← hw1]
  have hs1 : Step [] w w1 := by rw [hw1]; exact (Step.alloc _ _).trans (Step.alloc _ _)
  have hz : w1.heap.size = w.heap.size + 2 := by rw [hw1]; simp
  have b3 : Boxed w1 w.heap.size 3 (.int .i64 0) := by rw [hw1]; exact (Boxed.new _ _ _).alloc _
  have b1 : Boxed w1 (w.heap.size + 1) 99 (.map (some bm)) := by rw [hw1]; have := Boxed.new (w.alloc (.cells #[.int .i64 0] 3)) 99 (.map (some bm)); rwa [World.size_alloc] at this
  clear hw1 c1 c1'
  obtain ⟨es, clk, hob⟩ := H.out.1.m.block
  have hob1 := obj_step hob hs1 (by simp)
  have hbm : bm < w.heap.size := heap_lt hob
  have HH := Lib.hid (And.intro hob1 hs1)
  have h0 : Byts w.heap.size w bm (w.heap.size + 1) w.heap.size (.map es clk) M f M w1 := ⟨hob1, b1, H.out.1.r.nd, fun _ h => h, hs1, 0, b3, by omega⟩
  have hcalm : ∀ L A C, Byts w.heap.size w bm (w.heap.size + 1) w.heap.size (.map es clk) M f L A → Calm w1.heap.size A C → Byts w.heap.size w bm (w.heap.size + 1) w.heap.size (.map es clk) M f L C := by
    rintro L A C ⟨h1, h2, h3, h4, h5, n, h6, h7⟩ hc
    exact ⟨obj_calm h1 hc rfl, boxed_calm h2 hc, h3, h4, h5.calm hc (by omega), n, boxed_calm h6 hc, h7⟩
  refine range_outer1S [] rfl enters116 (by simp) rfl rfl (fun s : Ents × (Nat × Value) => s.2.2)
    (fun s W => Byts w.heap.size w bm (w.heap.size + 1) w.heap.size (.map es clk) M f s.1 W ∧ s.2 ∈ s.1) (fun s => Byts w.heap.size w bm (w.heap.size + 1) w.heap.size (.map es clk) M f (delE s.1 s.2.1)) (fun _ _ _ => False)
    (Byts w.heap.size w bm (w.heap.size + 1) w.heap.size (.map es clk) M f M) (Byts w.heap.size w bm (w.heap.size + 1) w.heap.size (.map es clk) M f [])
    (fun s A C h hc => ⟨hcalm _ _ _ h.1 hc, h.2⟩) (fun s A C h hc => hcalm _ _ _ h hc) (fun _ => abide_false _) (fun A C h hc => hcalm _ _ _ h hc) (fun A C h hc => hcalm _ _ _ h hc) h0
    (fun l rc Jx W1 X1 hsz hX hrc hrb hJx hY hst hr1 => values_gives w1.heap.size bm (w.heap.size + 1) (.map es clk) rfl M _ hcalm (fun L W h => ⟨h.1, h.2.1⟩) l rc Jx W1 X1 hsz hX hrc hrb hJx
      (by have hm := H.out.1.m; obtain ⟨D, n, ⟨es', clk', hb', F', g1, g2⟩, g3, g4⟩ := hm; rw [hob] at hb'; cases hb'; exact ⟨D, n, ⟨es, clk, hst.1, F', g1, g2⟩, g3, g4⟩) hY hst hr1)
    ?body ?done ?stop
  case body =>
    rintro l ⟨L, k, v⟩ W hl _ ⟨⟨h1, h2, h3, h4, h5, n, h6, h7⟩, hm⟩
    dsimp only at h1 h2 h3 h4 h5 h6 h7 hm ⊢
    obtain ⟨p, hp, hpay⟩ := H.out.1.r.to k v (h4 _ hm)
    obtain ⟨uq, uc, hu, _⟩ := hpay.1.form
    rw [u8s_length] at hu
    subst hu
    have hc6 := h6.cell
    have hf6 := h6.frozen
    have hd := sumK_del (f := f) h3 hm
    rw [hp] at hd
    simp only [Option.getD_some] at hd
    have hle : sumK f (L.map Prod.fst) ≤ 1000000000 := by have := H.out.2; omega
    have hn1 : n ≤ 1000000000 := by have := H.out.2; omega
    obtain ⟨len, hlen⟩ : ∃ len, len = p.length := ⟨_, rfl⟩
    rw [← hlen] at hd hm ⊢
    have hl1 : len ≤ 1000000000 := by omega
    have hwr : IntKind.i64.wrap ((n : Int) + (len : Int)) = (n : Int) + (len : Int) := by rw [IntKind.wrap_i64]; omega
    have HP := Lib.hid (And.intro h1 (And.intro h2 (And.intro h3 (And.intro h4 (And.intro h5 (And.intro h6 (And.intro h7 hd)))))))
    simp only [frame1]
    clear h1 h2 h3 h4 h5 h6 h7 hd hm h0 hcalm b1 b3 hp hpay hle hlen HN H
    gi_wp2
    obtain ⟨h1, h2, h3, h4, h5, h6, h7, hd⟩ := HP.out
    have hset : Step [w.heap.size] W (W.setCell ⟨w.heap.size, 0, none⟩ (.int .i64 ((n : Int) + (len : Int)))) := Step.setObj h6 rfl (by simp) _ _
    refine ⟨hset.book, obj_step h1 hset (by simp; omega), boxed_step h2 hset (by simp), nodup_del h3 _, fun q hq => h4 q (mem_delE.1 hq).1, h5.trans' hset (fun _ h _ => h) (fun i hi hlt => by simp at hi; omega), n + len, ?_, by omega⟩
    have := h6.set (.int .i64 ((n : Int) + (len : Int)))
    rw [show (((n + len : Nat) : Nat) : Int) = (n : Int) + (len : Int) by push_cast; rfl]
    exact this
  case done =>
    rintro D W hD ⟨h1, h2, h3, h4, h5, n, h6, h7⟩ hd
    have hc6 := h6.cell
    have hn : n = sumK f (M.map Prod.fst) := by have : sumK f ([] : List Nat) = 0 := rfl; simp at h7; omega
    have HNN := Lib.hid hn
    have HZ := Lib.hid h5
    clear h1 h2 h3 h4 h5 h6 h7 h0 hcalm b1 b3 HN hn
    gi_wp2
    refine leaves_marks (B := w.heap.size) (results_tmp rfl _ _) [D] _ (by simp; exact ⟨by omega, hd⟩) (by simp) ?_
    intro w' hc
    exact ⟨by rw [← HNN.out]; rfl, HZ.out.calm hc (Nat.le_refl _)⟩
  case stop =>
    rintro D c s W hD h hd
    exact h.elim
end Go.Proofs.Ytbainekfbonbjaa
