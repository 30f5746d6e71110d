/- window: the numbers that are kept, in a row: slices.Sorted(maps.Keys(..)). No statement is proved here; nothing is assumed. -/
import Derived.Test.YtbainekfbonbjaaSrtJ
import Derived.Test.YtbainekfbonbjaaWinB
namespace Go.Proofs.Ytbainekfbonbjaa
open Go.RowKit Go.Shelf
set_option linter.unusedVariables false
set_option linter.unusedSimpArgs false
attribute [local go_sem] Oper.semAt_some

theorem enters112 : Enters Try.prog 112 := enters_of Try.func112 (by kernel_rfl) rfl
theorem keys_any (bm : Nat) (w : World) : Calls Try.prog 95 #[.map (some bm)] w fun e w' => e = .returned (.func (.func 112) #[] #[.pointer (some ⟨w.heap.size, 0, none⟩)]) ∧ w.alloc (.cells #[.map (some bm)] 93) = w' := by
  go_enter Try.func95, Try.ntmps95
  go_wp2
  go_ret
  exact ⟨rfl, rfl⟩
set_option maxRecDepth 100000 in
set_option maxHeartbeats 2000000 in
theorem keys_gives (B' bm b1 : Nat) (om : Obj) (hom : isBook om = false) (M : Ents) (I : Ents → World → Prop)
    (hI : ∀ L A C, I L A → Calm B' A C → I L C) (hR : ∀ L W, I L W → W.heap[bm]? = some om ∧ Boxed W b1 93 (.map (some bm)))
    (l : Nat) (rc : World → Prop) (Jx : Ents × (Nat × Value) → World → Prop) (W1 : World) (X1 : List Nat) (hsz : B' ≤ W1.heap.size) (hX : ∀ k ∈ X1, k < W1.heap.size) (hrc : ∀ A C, rc A → Calm W1.heap.size A C → rc C) (hrb : ∀ A C, rc A → BookX [] A C → rc C) (hJx : Abide W1.heap.size Jx)
    (hM : MapV W1 bm M)
    (hY : ∀ s W', (I s.1 W' ∧ s.2 ∈ s.1) → rc W' → Yields Try.prog l #[.int .u32 (s.2.1 : Int)] W' (fun e1 W'' => ((e1 = .returned (.bool true) ∧ I (delE s.1 s.2.1) W'' ∧ rc W'') ∨ (e1 = .returned (.bool false) ∧ Jx s W'')) ∧ BookX X1 W' W''))
    (h0 : I M W1) (hr0 : rc W1) :
    Calls Try.prog 112 (#[.func (.yield l) #[] #[]] ++ #[.pointer (some ⟨b1, 0, none⟩)]) W1 (fun e1 W' => (∃ v, e1 = .returned v) ∧ ((I [] W' ∧ rc W') ∨ ∃ s, Jx s W')) := by
  obtain ⟨k1, k2⟩ := hR _ _ h0
  have k3 := k2.cell
  have HIa := Lib.hid hI
  have HRa := Lib.hid hR
  have HRC := Lib.hid hrc
  have HY := Lib.hid hY
  have HX := Lib.hid (And.intro hX hsz)
  obtain ⟨W2, hrun, hrg, hgr, hz2⟩ := hM.range (t := 93) (e := 135) Try.underlying93
  have hs2 : Step [] W1 W2 := Step.ofGrown hgr
  have HI := Lib.hid (show I M W2 ∧ rc W2 from ⟨hI _ _ _ h0 (hs2.calm0), hrc _ _ hr0 hs2.calm0⟩)
  have HG := Lib.hid hrg
  have HZ := Lib.hid (show W1.heap.size < W2.heap.size by omega)
  obtain ⟨r, hr⟩ : ∃ r, r = W1.heap.size := ⟨_, rfl⟩
  have HRR := Lib.hid hr
  rw [← hr] at hrun HG
  clear hI hR hrc hrb hJx hY hX hsz h0 hr0 k1 k2 hs2 hrg hgr hz2 hr hM
  refine (callsIn_wide (n := 0)).1 (callsIn_of_wp Try.func112 rfl trivial ?_ rfl)
  simp only [Try.ntmps112, List.size_toArray, List.length_cons, List.length_nil, Nat.reduceAdd, Nat.reduceSub, Array.replicate_succ, Array.replicate_zero, List.push_toArray, List.append_toArray, List.nil_append, List.cons_append]
  gi_wp2_with fail
  clear hrun k3
  gi_loopw [3] (fun i wr => ∃ L : Ents, i = i ∧ Hid ((I L wr ∧ rc wr) ∧ RngV wr bm r M L)) (fun i wr => wr.rangeLeft bm r)
  case atStart => exact ⟨M, rfl, HI.out, HG.out⟩
  case round =>
    obtain ⟨L, _, hI⟩ := hrel
    clear HI HG
    rcases hI.out.2.next 0 with ⟨rfl, hnx⟩ | ⟨k, v, W3, hm, hk, hnx, hr3, hlt, hg3, hz3, hen⟩
    · gi_wp2
      go_end0
      exact ⟨⟨_, rfl⟩, .inl hI.out.1⟩
    · obtain ⟨ob, hob, hbk⟩ := hI.out.2.iter
      have hc3 : Calm W1.heap.size wr W3 := Calm.iter hg3 (by rw [HRR.out]; exact Nat.le_refl _) hob hbk
      have hI3 : I L W3 := HIa.out _ _ _ hI.out.1.1 (hc3.mono HX.out.2)
      have hrc3 : rc W3 := HRC.out _ _ hI.out.1.2 hc3
      obtain ⟨fn, tmps, assign, body, hy, hRR⟩ := HY.out (L, (k, v)) W3 ⟨hI3, hm⟩ hrc3
      have H3 := Lib.hid (And.intro hr3 (And.intro hlt (And.intro hm (HRa.out _ _ hI3))))
      obtain ⟨ob3, hob3, hbk3⟩ := hr3.iter
      have HO3 := Lib.hid (And.intro hob3 hbk3)
      clear hr3 hlt hm hg3 hz3 hob hbk hc3 hI3 hrc3 hob3 hbk3
      gi_wp2_with fail
      clear hnx hen
      refine hRR.mono ?_
      rintro e1 W4 ⟨(⟨rfl, hp, hrc4⟩ | ⟨rfl, hjx⟩), hb4⟩
      · have HP := Lib.hid (And.intro (And.intro hp hrc4) hb4)
        clear hp hrc4 hb4 hRR hy
        have e1 : W4.heap[bm]? = W3.heap[bm]? := ((HRa.out _ _ HP.out.1.1).1).trans H3.out.2.2.2.1.symm
        have e2 : W4.heap[r]? = W3.heap[r]? := (HP.out.2 r ob3 HO3.out.1 (held_of_book HO3.out.2) (fun hm => by have := HX.out.1 r hm; have := HRR.out; omega)).trans HO3.out.1.symm
        have h4 := H3.out.1.blocks e1 e2
        have h5 : W4.rangeLeft bm r = W3.rangeLeft bm r := by simp only [World.rangeLeft, e1, e2]
        have H45 := Lib.hid (And.intro h4 h5)
        clear e1 e2 h4 h5
        gi_wp2
        go_roundw
        case rel => exact ⟨_, trivial, HP.out.1, H45.out.1⟩
        case measure =>
          have h5 := H45.out.2
          have := H3.out.2.1
          omega
      · have HP := Lib.hid hjx
        clear hjx hb4 hRR hy
        gi_wp2
        refine bodyPost_ret (results_none rfl _ _ _) rfl ?_
        exact ⟨⟨_, rfl⟩, .inr ⟨_, HP.out⟩⟩


theorem perm_take {xs : List Nat} {L M : Ents} (hn : (L.map Prod.fst).Nodup) {k : Nat} {v : Value} (hm : (k, v) ∈ L) (h : (xs ++ L.map Prod.fst).Perm (M.map Prod.fst)) : ((xs ++ [k]) ++ (delE L k).map Prod.fst).Perm (M.map Prod.fst) := by
  have hp : (L.map Prod.fst).Perm (k :: (delE L k).map Prod.fst) := by
    refine perm_nodup hn (List.nodup_cons.2 ⟨fun h => (keys_delE.1 h).2 rfl, nodup_del hn k⟩) fun j => ?_
    rw [List.mem_cons, keys_delE]
    constructor
    · intro hj
      by_cases e : j = k
      · exact .inl e
      · exact .inr ⟨hj, e⟩
    · rintro (rfl | h)
      · exact List.mem_map.2 ⟨_, hm, rfl⟩
      · exact h.1
  rw [List.append_assoc]
  exact ((List.Perm.refl xs).append hp.symm).trans h
/-- What AppendSeq goes along with. -/
def KeyC (w : World) (bm b1 : Nat) (om : Obj) (M : Ents) (L : Ents) (W : World) : Prop :=
  W.heap[bm]? = some om ∧ Boxed W b1 93 (.map (some bm)) ∧ (L.map Prod.fst).Nodup ∧ (∀ q ∈ L, q ∈ M) ∧ Step [] w W ∧ ∃ v xs, Boxed W w.heap.size 26 v ∧ W.ownsRow w.heap.size 22 1 v xs.length (n32 xs) ∧ (xs ++ L.map Prod.fst).Perm (M.map Prod.fst)
theorem n32_snoc (xs : List Nat) (k : Nat) : n32 (xs ++ [k]) = n32 xs ++ [.int .u32 (k : Int)] := by simp [n32]
set_option maxRecDepth 100000 in
set_option maxHeartbeats 2000000 in
theorem appendKeys_any (bm b1 : Nat) (M : Ents) (hM : M.length ≤ 1000) (w : World) (h : MapV w bm M) (hb : Boxed w b1 93 (.map (some bm))) :
    Calls Try.prog 119 #[.slice none 0 0, .func (.func 112) #[] #[.pointer (some ⟨b1, 0, none⟩)]] w fun e w' => ∃ v xs, e = .returned v ∧ w'.ownsRow w.heap.size 22 1 v xs.length (n32 xs) ∧ xs.Perm (M.map Prod.fst) ∧ Step [] w w' := by
  obtain ⟨i0, hi, hz0, hz1, hz2⟩ := info_parts info22
  obtain ⟨es, clk, hob⟩ := h.block
  have hbm : bm < w.heap.size := heap_lt hob
  have hb1l : b1 < w.heap.size := heap_lt hb
  have hnd : (M.map Prod.fst).Nodup := by obtain ⟨D, n, _, _, hD⟩ := h; exact hD.nd
  refine (callsIn_wide (n := 0)).1 (callsIn_of_wp_marks Try.func119 rfl trivial ?_ rfl)
  simp only [Try.ntmps119, List.size_toArray, List.length_cons, List.length_nil, Nat.reduceAdd, Nat.reduceSub, Array.replicate_succ, Array.replicate_zero, List.push_toArray, List.append_toArray, List.nil_append, List.cons_append]
  have H := Lib.hid h
  gi_wp2_with fail
  have b5 := Boxed.new w 26 (.slice none 0 0)
  have s0 : Step [] w (w.alloc (.cells #[.slice none 0 0] 26)) := Step.alloc _ _
  have h0 : KeyC w bm b1 (.map es clk) M M (w.alloc (.cells #[.slice none 0 0] 26)) := ⟨obj_step hob s0 (by simp), hb.alloc _, hnd, fun _ h => h, s0, _, [], b5, World.ownsRow_nil _ _ _ _, by simp⟩
  obtain ⟨w1, hw1⟩ : ∃ w1, w1 = w.alloc (.cells #[.slice none 0 0] 26) := ⟨_, rfl⟩
  rw [← hw1] at h0 ⊢
  have hz : w1.heap.size = w.heap.size + 1 := by rw [hw1]; simp
  clear hw1 b5 s0 h hb
  have hcalm : ∀ L A C, KeyC w bm b1 (.map es clk) M L A → Calm w1.heap.size A C → KeyC w bm b1 (.map es clk) M L C := by
    rintro L A C ⟨h1, h2, h3, h4, h5, v, xs, h6, h7, h8⟩ hc
    exact ⟨obj_calm h1 hc rfl, boxed_calm h2 hc, h3, h4, h5.calm hc (by omega), v, xs, boxed_calm h6 hc, row_calm h7 hc, h8⟩
  refine range_outer1S [] rfl enters112 (by simp) rfl rfl (fun s : Ents × (Nat × Value) => .int .u32 (s.2.1 : Int))
    (fun s W => KeyC w bm b1 (.map es clk) M s.1 W ∧ s.2 ∈ s.1) (fun s => KeyC w bm b1 (.map es clk) M (delE s.1 s.2.1)) (fun _ _ _ => False)
    (KeyC w bm b1 (.map es clk) M M) (KeyC w bm b1 (.map es clk) M [])
    (fun s A C h hc => ⟨hcalm _ _ _ h.1 hc, h.2⟩) (fun s A C h hc => hcalm _ _ _ h hc) (fun _ => abide_false _) (fun A C h hc => hcalm _ _ _ h hc) (fun A C h hc => hcalm _ _ _ h hc) h0
    (fun l rc Jx W1 X1 hsz hX hrc hrb hJx hY hst hr1 => keys_gives w1.heap.size bm b1 (.map es clk) rfl M _ hcalm (fun L W h => ⟨h.1, h.2.1⟩) l rc Jx W1 X1 hsz hX hrc hrb hJx
      (by have hm := H.out; obtain ⟨D, n, ⟨es', clk', hb', F', g1, g2⟩, g3, g4⟩ := hm; rw [hob] at hb'; cases hb'; exact ⟨D, n, ⟨es, clk, hst.1, F', g1, g2⟩, g3, g4⟩) hY hst hr1)
    ?body ?done ?stop
  case body =>
    rintro l ⟨L, k, v⟩ W hl _ ⟨⟨h1, h2, h3, h4, h5, sv, xs, h6, h7, h8⟩, hm⟩
    dsimp only at h1 h2 h3 h4 h5 h6 h7 h8 hm ⊢
    obtain ⟨ao, cap, rfl⟩ := row_slice h7
    have hb' := h6.cell
    have hxl : xs.length ≤ 1000 := by have := h8.length_eq; simp at this; omega
    obtain ⟨n, hn⟩ : ∃ n, n = xs.length := ⟨_, rfl⟩
    rw [← hn] at h7 h6 hb' hxl
    have HB := Lib.hid h6
    have HV := Lib.hid h7
    have HX := Lib.hid (And.intro h1 (And.intro h2 (And.intro h3 (And.intro h4 (And.intro h5 (And.intro h8 (And.intro hm hn)))))))
    have hsz := h5.size
    simp only [frame1]
    clear h1 h2 h3 h4 h5 h6 h7 h8 hm h0 hcalm hn
    gi_wp2_with (gi_at_builtin; refine wpListIn_append_own_at _ rfl _ _ 26 rfl w.heap.size 22 i0 (.int .u32 0) 1 4 Try.underlying26 hi hz0 hz1 hz2 rfl (by decide) _ _ _ rfl (HV.out.alloc _) ⟨W.heap.size, 0, none⟩ 1 1 [.int .u32 (k : Int)] rfl rfl (cell_one_new _ _ _) (by simp [Value.oneCell']) (by unfold maxLen; omega) (by omega) (by simp; omega) ?_; intro v' w2 hown' hgrow _ hat; obtain ⟨g', cap', rfl⟩ := ownsRow_succ hown'; obtain ⟨hv1, hv2, hr2, hs2, hat2⟩ := appended HB.out (by decide) rfl rfl HV.out hown' hgrow hat; have hc1 := hv1.cell; have hf1 := hv1.frozen)
    obtain ⟨h1, h2, h3, h4, h5, h8, hm, hn⟩ := HX.out
    have hbs : ∀ g ∈ w.heap.size :: (Value.slice ao n cap).ownBlock.toList, w.heap.size ≤ g := fun g hg => by
      rcases List.mem_cons.1 hg with rfl | hg
      · omega
      · exact (HV.out.lt g (by simpa using hg)).1
    refine ⟨hs2.book, obj_step h1 hs2 (fun hm => by have := hbs _ hm; omega), boxed_step h2 hs2 (fun hm => by have := hbs _ hm; omega), nodup_del h3 _, fun q hq => h4 q (mem_delE.1 hq).1, h5.trans' hs2 (fun _ h _ => h) (fun i hi hlt => by have := hbs _ hi; omega), _, xs ++ [k], hv2, ?_, perm_take h3 hm h8⟩
    rw [n32_snoc, List.length_append, ← hn]
    exact hr2
  case done =>
    rintro D W hD ⟨h1, h2, h3, h4, h5, sv, xs, h6, h7, h8⟩ hd
    have hb' := h6.cell
    have HZ := Lib.hid (And.intro h5 (And.intro h7 h8))
    clear h1 h2 h3 h4 h5 h6 h7 h8 h0 hcalm
    gi_wp2
    refine leaves_marks (B := w1.heap.size) (results_tmp rfl _ _) [D] _ (by simp; exact ⟨hD, hd⟩) (by simp) ?_
    intro w' hc
    obtain ⟨h5, h7, h8⟩ := HZ.out
    exact ⟨sv, xs, rfl, row_calm h7 hc, by simpa using h8, h5.calm hc (by omega)⟩
  case stop =>
    rintro D c s W hD h hd
    exact h.elim
set_option maxRecDepth 100000 in
theorem collectKeys_any (bm b1 : Nat) (M : Ents) (hM : M.length ≤ 1000) (w : World) (h : MapV w bm M) (hb : Boxed w b1 93 (.map (some bm))) :
    Calls Try.prog 110 #[.func (.func 112) #[] #[.pointer (some ⟨b1, 0, none⟩)]] w fun e w' => ∃ v xs, e = .returned v ∧ w'.ownsRow w.heap.size 22 1 v xs.length (n32 xs) ∧ xs.Perm (M.map Prod.fst) ∧ Step [] w w' := by
  have HC := Lib.hid (appendKeys_any bm b1 M hM w h hb)
  clear h hb hM
  go_enter Try.func110, Try.ntmps110
  go_wp2_with (go_at_call 119; refine HC.out.mono ?_; rintro e w' ⟨v, xs, rfl, h1, h2⟩; have H1 := Lib.hid (And.intro h1 h2); clear h1 h2)
  go_ret
  exact ⟨v, xs, rfl, H1.out.1, H1.out.2⟩
set_option maxRecDepth 100000 in
/-- slices.Sorted(keys): the numbers, in a row. -/
theorem sortedKeys_any {m : Nat} (hP : PdqAt m) (hm : m < 256) (bm b1 : Nat) (M : Ents) (hM : M.length ≤ m) (ys : List Nat) (hp : (M.map Prod.fst).Perm ys) (hs : ys.Pairwise (· < ·)) (w : World) (h : MapV w bm M) (hb : Boxed w b1 93 (.map (some bm))) :
    Calls Try.prog 94 #[.func (.func 112) #[] #[.pointer (some ⟨b1, 0, none⟩)]] w fun e w' => ∃ v, e = .returned v ∧ w'.ownsRow w.heap.size 22 1 v ys.length (n32 ys) ∧ Step [] w w' := by
  have HC := Lib.hid (collectKeys_any bm b1 M (by omega) w h hb)
  have HP := Lib.hid (And.intro hP (And.intro hm (And.intro hM (And.intro hp hs))))
  clear h hb hM hP hm hp hs
  go_enter Try.func94, Try.ntmps94
  go_wp2_with (go_at_call 110; refine HC.out.mono ?_; rintro e w' ⟨v, xs, rfl, h1, h2, h3⟩; have H1 := Lib.hid (And.intro h1 (And.intro h2 h3)); clear h1 h2 h3; obtain ⟨ao, cap, rfl⟩ := row_slice H1.out.1)
  have hcS := sorts_row HP.out.1 HP.out.2.1 w.heap.size _ xs ys (by have := H1.out.2.1.length_eq; have := HP.out.2.2.1; simp at *; omega) (HP.out.2.2.2.1.symm.trans H1.out.2.1.symm) HP.out.2.2.2.2 w' H1.out.1
  refine hcS.mono ?_
  rintro e w2 ⟨rfl, h1, h2⟩
  have H2 := Lib.hid (And.intro h1 h2)
  clear h1 h2 hcS
  go_wp2
  go_ret
  refine ⟨_, rfl, H2.out.1, H1.out.2.2.trans' H2.out.2 (fun _ h _ => h) (fun i hi hl => ?_)⟩
  have := (H1.out.1.lt i (by simpa using hi)).1
  omega
end Go.Proofs.Ytbainekfbonbjaa
