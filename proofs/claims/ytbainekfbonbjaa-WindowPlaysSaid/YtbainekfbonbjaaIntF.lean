/- intake: slices.Collect over ready. No statement is proved here; nothing is assumed. -/
import Derived.Test.YtbainekfbonbjaaIntE
namespace Go.Proofs.Ytbainekfbonbjaa
open Go.RowKit Go.Shelf
set_option linter.unusedVariables false
set_option linter.unusedSimpArgs false
attribute [local go_sem] Oper.semAt_some

theorem info71 : (Try.prog.info? 71).map (fun i => (i.zero, i.size, i.bytes)) = some (some (.slice none 0 0), 1, 24) := by kernel_rfl
theorem enters115 : Enters Try.prog 115 := enters_of Try.func115 (by kernel_rfl) rfl

/-- The values handed out: those of the numbers from F on, as M0 has them. -/
def Outs (F : Nat) (M0 : Ents) (vals : List Value) : Prop := ∀ j v, vals[j]? = some v → (F + j, v) ∈ M0
theorem Outs.nil (F : Nat) (M0 : Ents) : Outs F M0 [] := fun j v h => by simp at h
theorem Outs.snoc {F : Nat} {M0 : Ents} {vals : List Value} {v : Value} (h : Outs F M0 vals) (hm : (F + vals.length, v) ∈ M0) : Outs F M0 (vals ++ [v]) := by
  intro j u hu
  by_cases hj : j < vals.length
  · rw [List.getElem?_append_left hj] at hu
    exact h j u hu
  · rw [List.getElem?_append_right (by omega)] at hu
    have : j - vals.length = 0 := by
      have := (List.getElem?_eq_some_iff.1 hu).1
      simp at this; omega
    rw [this] at hu
    simp at hu
    subst hu
    have e : j = vals.length := by omega
    subst e
    exact hm
/-- What AppendSeq goes along with. -/
def Coll (bi bm F m : Nat) (M0 : Ents) (w : World) (k : Nat) (W : World) : Prop :=
  k ≤ m ∧ ∃ v vals, Boxed W w.heap.size 102 v ∧ W.ownsRow w.heap.size 71 1 v vals.length vals ∧ vals.length = k ∧ Outs F M0 vals ∧ Step [bi, bm] w W
theorem row_slice {base : Nat} {W : World} {e : TypeId} {size : Nat} {v : Value} {n : Nat} {xs : List Value} (h : W.ownsRow base e size v n xs) : ∃ ao cap, v = .slice ao n cap := by
  rcases h.2 with ⟨rfl, h0⟩ | ⟨g, cap, _, rfl, _⟩
  · exact ⟨none, 0, by rw [h0]⟩
  · exact ⟨_, _, rfl⟩
section
variable {bi bm F m k : Nat} {M0 : Ents} {w W W' : World}
theorem Coll.calm {B' : Nat} (h : Coll bi bm F m M0 w k W) (hc : Calm B' W W') (hB : w.heap.size ≤ B') : Coll bi bm F m M0 w k W' := by
  obtain ⟨h0, v, vals, h1, h2, h3, h4, h5⟩ := h
  exact ⟨h0, v, vals, boxed_calm h1 hc, row_calm h2 hc, h3, h4, h5.calm hc hB⟩
theorem Coll.step (h : Coll bi bm F m M0 w k W) (hs : Step [bi, bm] W W') (h1 : bi < w.heap.size) (h2 : bm < w.heap.size) : Coll bi bm F m M0 w k W' := by
  obtain ⟨h0, v, vals, h3, h4, h5, h6, h7⟩ := h
  refine ⟨h0, v, vals, boxed_step h3 hs (by simp; omega), row_step h4 hs (fun g hg => ?_), h5, h6, h7.trans hs⟩
  have := h4.lt g hg
  simp; omega
end
set_option maxRecDepth 100000 in
set_option maxHeartbeats 2000000 in
theorem appendReady_any (B bi bm br F : Nat) (f : Kept7) (M0 : Ents) (hF : F + M0.length < 4294967296) (hM : M0.length ≤ 1000) (w : World) (h : IntM B w bi bm F M0 f) (hb : Boxed w br 98 (.pointer (some ⟨bi, 0, none⟩))) :
    Calls Try.prog 114 #[.slice none 0 0, .func (.func 115) #[] #[.pointer (some ⟨br, 0, none⟩)]] w fun e w' => ∃ v vals M, e = .returned v ∧ OwnAt w.heap.size w' 71 v vals ∧ Outs F M0 vals ∧ f (F + vals.length) = none ∧
      IntM B w' bi bm (F + vals.length) M (behind7 F f vals.length) ∧ M.length + vals.length = M0.length ∧ (∀ q ∈ M, q ∈ M0) ∧ Step [bi, bm] w w' := by
  obtain ⟨i0, hi, hz0, hz1, hz2⟩ := info_parts info71
  have hib : bi < w.heap.size := heap_lt h.o
  have hmb : bm < w.heap.size := by obtain ⟨_, _, hh⟩ := h.m.block; exact heap_lt hh
  refine (callsIn_wide (n := 0)).1 (callsIn_of_wp_marks Try.func114 rfl trivial ?_ rfl)
  simp only [Try.ntmps114, List.size_toArray, List.length_cons, List.length_nil, Nat.reduceAdd, Nat.reduceSub, Array.replicate_succ, Array.replicate_zero, List.push_toArray, List.append_toArray, List.nil_append, List.cons_append]
  have H := Lib.hid (And.intro h hb)
  clear h hb
  gi_wp2_with fail
  have b5 := Boxed.new w 102 (.slice none 0 0)
  have s0 : Step [] w (w.alloc (.cells #[.slice none 0 0] 102)) := Step.alloc _ _
  have h0 : RdyAt B bi bm br F M0.length f M0 (Coll bi bm F M0.length M0 w) 0 (w.alloc (.cells #[.slice none 0 0] 102)) :=
    ⟨⟨M0, by rw [Nat.add_zero]; exact H.out.1.same s0, by omega, fun _ h => h⟩, H.out.2.alloc _, by omega, _, [], b5, World.ownsRow_nil _ _ _ _, rfl, Outs.nil _ _, s0.nil_mono⟩
  obtain ⟨w1, hw1⟩ : ∃ w1, w1 = w.alloc (.cells #[.slice none 0 0] 102) := ⟨_, rfl⟩
  rw [← hw1] at h0 ⊢
  have hz : w1.heap.size = w.heap.size + 1 := by rw [hw1]; simp
  clear hw1 b5 s0
  have HC := Lib.hid (show (∀ k A D, Coll bi bm F M0.length M0 w k A → Calm w1.heap.size A D → Coll bi bm F M0.length M0 w k D) ∧ (∀ k A D, Coll bi bm F M0.length M0 w k A → Step [bi, bm] A D → Coll bi bm F M0.length M0 w k D) from ⟨fun k A D h hc => h.calm hc (by omega), fun k A D h hs => h.step hs hib hmb⟩)
  have hrdy : ∀ (k : Nat) A D, RdyAt B bi bm br F M0.length f M0 (Coll bi bm F M0.length M0 w) k A → Calm w1.heap.size A D → RdyAt B bi bm br F M0.length f M0 (Coll bi bm F M0.length M0 w) k D := by
    rintro k A D ⟨⟨M, h1, h2, h3⟩, h4, h5⟩ hc
    exact ⟨⟨M, h1.calm hc, h2, h3⟩, boxed_calm h4 hc, HC.out.1 _ _ _ h5 hc⟩
  refine range_outer1S [] rfl enters115 (by simp) rfl rfl (fun s : Nat × Value => s.2)
    (RdyMid B bi bm br F M0.length f M0 (Coll bi bm F M0.length M0 w)) (fun s => RdyAt B bi bm br F M0.length f M0 (Coll bi bm F M0.length M0 w) (s.1 + 1)) (fun _ _ _ => False)
    (RdyAt B bi bm br F M0.length f M0 (Coll bi bm F M0.length M0 w) 0) (fun W => ∃ K, RdyAt B bi bm br F M0.length f M0 (Coll bi bm F M0.length M0 w) K W ∧ f (F + K) = none)
    ?hMid (fun s A D h hc => hrdy _ _ _ h hc) (fun _ => abide_false _) (fun A D h hc => hrdy _ _ _ h hc) (fun A D ⟨K, h, hf⟩ hc => ⟨K, hrdy _ _ _ h hc, hf⟩) h0
    (fun l rc Jx W1 X1 hsz hX hrc hrb hJx hY hst hr1 => ready_gives B w1.heap.size bi bm br F M0.length f M0 _ hF HC.out.1 HC.out.2 l rc Jx W1 X1 hsz hX hrc hrb hJx hY hst hr1)
    ?body ?done ?stop
  case hMid =>
    rintro s A D ⟨⟨⟨M, h1, h2, h3⟩, h4, h5⟩, ⟨p, h6, h7⟩, h8⟩ hc
    exact ⟨⟨⟨M, h1.calm hc, h2, h3⟩, boxed_calm h4 hc, HC.out.1 _ _ _ h5 hc⟩, ⟨p, h6, h7.calm hc⟩, h8⟩
  case body =>
    rintro l ⟨k, u⟩ W hl _ ⟨⟨hM5, hbr, hk, v, vals, hbx, hrow, hlen, hout, hst⟩, hp, hmem⟩
    obtain ⟨p, _, hpay⟩ := hp
    obtain ⟨uq, un, uc, hu⟩ := hpay.1.slice'
    simp only at hu
    subst hu
    obtain ⟨ao, cap, rfl⟩ := row_slice hrow
    dsimp only at hlen hk hmem hM5 ⊢
    rw [hlen] at hrow hbx
    have hb' := hbx.cell
    have HB := Lib.hid hbx
    have HV := Lib.hid hrow
    have HX := Lib.hid (And.intro hM5 (And.intro hbr (And.intro hout (And.intro hst (And.intro hmem hk)))))
    have HL := Lib.hid hlen
    have hkl : k ≤ 1000 := by omega
    have hsz := hst.size
    simp only [frame1]
    clear hM5 hbr hbx hrow hout hst hpay hmem hrdy h0 hk hlen hF
    gi_wp2_with (gi_at_builtin; refine wpListIn_append_own_at _ rfl _ _ 102 rfl w.heap.size 71 i0 (.slice none 0 0) 1 24 Try.underlying102 hi hz0 hz1 hz2 rfl (by decide) _ _ _ rfl (HV.out.alloc _) ⟨W.heap.size, 0, none⟩ 1 1 [.slice uq un uc] rfl rfl (cell_one_new _ _ _) (by simp [Value.oneCell']) (by unfold maxLen; omega) (by omega) (by simp; omega) ?_; intro v' w2 hown' hgrow _ hat; obtain ⟨g', cap', rfl⟩ := ownsRow_succ hown'; obtain ⟨hv1, hv2, hr2, hs2, hat2⟩ := appended HB.out (by decide) rfl rfl HV.out hown' hgrow hat; have hc1 := hv1.cell; have hf1 := hv1.frozen)
    obtain ⟨⟨M, hM1, hM2, hM3⟩, hbr, hout, hst, hmem, hk⟩ := HX.out
    have hbs : ∀ g ∈ w.heap.size :: (Value.slice ao k cap).ownBlock.toList, w.heap.size ≤ g := fun g hg => by
      rcases List.mem_cons.1 hg with rfl | hg
      · omega
      · exact (HV.out.lt g (by simpa using hg)).1
    refine ⟨hs2.book, ⟨M, hM1.keepG hs2 (fun hm => by have := hbs _ hm; omega) (fun hm => by have := hbs _ hm; omega) (fun q hq g hg hm => ?_), hM2, hM3⟩, boxed_step hbr hs2 (fun hm => ?_), by omega, _, vals ++ [.slice uq un uc], hv2, ?_, by simp [HL.out], hout.snoc (by rw [HL.out]; exact hmem), ?_⟩
    · have := hbs _ hm
      obtain ⟨p0, _, hp0⟩ := H.out.1.r.to q.1 q.2 (hM3 q hq)
      have := (hp0.1.block hg).2.1
      omega
    · have := hbs _ hm
      have := heap_lt (show w.heap[br]? = _ from H.out.2)
      omega
    · rw [List.length_append, HL.out]; exact hr2
    · exact hst.trans' hs2 (fun _ h _ => h) (fun i hi hlt => by have := hbs _ hi; omega)
  case done =>
    rintro D W hD ⟨K, ⟨⟨M, hM1, hM2, hM3⟩, hbr, hk, v, vals, hbx, hrow, hlen, hout, hst⟩, hf⟩ hd
    have hb' := hbx.cell
    have HZ := Lib.hid (And.intro hM1 (And.intro hM2 (And.intro hM3 (And.intro hrow (And.intro hlen (And.intro hout (And.intro hst hf)))))))
    clear hM1 hM2 hM3 hrow hlen hout hst hf h0 hrdy hbr hbx
    gi_wp2
    refine leaves_marks (B := w1.heap.size) (results_tmp rfl _ _) [D] _ (by simp; exact ⟨hD, hd⟩) (by simp) ?_
    intro w' hc
    obtain ⟨hM1, hM2, hM3, hrow, hlen, hout, hst, hf⟩ := HZ.out
    subst hlen
    exact ⟨v, vals, M, rfl, .ofRow (row_calm hrow hc), hout, hf, hM1.calm hc, hM2, hM3, hst.calm hc (by omega)⟩
  case stop =>
    rintro D c s W hD h hd
    exact h.elim
set_option maxRecDepth 100000 in
theorem collectReady_any (B bi bm br F : Nat) (f : Kept7) (M0 : Ents) (hF : F + M0.length < 4294967296) (hM : M0.length ≤ 1000) (w : World) (h : IntM B w bi bm F M0 f) (hb : Boxed w br 98 (.pointer (some ⟨bi, 0, none⟩))) :
    Calls Try.prog 100 #[.func (.func 115) #[] #[.pointer (some ⟨br, 0, none⟩)]] w fun e w' => ∃ v vals M, e = .returned v ∧ OwnAt w.heap.size w' 71 v vals ∧ Outs F M0 vals ∧ f (F + vals.length) = none ∧
      IntM B w' bi bm (F + vals.length) M (behind7 F f vals.length) ∧ M.length + vals.length = M0.length ∧ (∀ q ∈ M, q ∈ M0) ∧ Step [bi, bm] w w' := by
  have HC := Lib.hid (appendReady_any B bi bm br F f M0 hF hM w h hb)
  clear h hb hF hM
  go_enter Try.func100, Try.ntmps100
  go_wp2_with (go_at_call 114; refine HC.out.mono ?_; rintro e w' ⟨v, vals, M, rfl, h1, h2⟩; have H1 := Lib.hid (And.intro h1 h2); clear h1 h2)
  go_ret
  exact ⟨v, vals, M, rfl, H1.out.1, H1.out.2⟩
end Go.Proofs.Ytbainekfbonbjaa
