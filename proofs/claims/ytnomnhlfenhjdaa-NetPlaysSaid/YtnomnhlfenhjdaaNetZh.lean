/- NetPlays: what its loops go along with. No statement is proved here; nothing is assumed. -/
import Derived.Test.YtnomnhlfenhjdaaNetZg
namespace Go.Proofs.Ytnomnhlfenhjdaa
open Go.RowKit Go.Shelf
set_option linter.unusedVariables false
set_option linter.unusedSimpArgs false

section
variable {B : Nat} {W W' : World}
theorem RefAt.calm {B' : Nat} {bn : Nat} {r : Nat → Value} {e : Nat → List Sl} {d : Nat → List (List Value)} (h : RefAt B W bn r e d) (hs : Calm B' W W') : RefAt B W' bn r e d :=
  ⟨obj_calm h.xo hs rfl, h.bn0, fun k hk => (h.xr k hk).calm hs, h.xl, fun k hk j s c h1 h2 => (h.xd k hk j s c h1 h2).calm hs, h.nr, h.ne⟩
theorem PairAt.calm {B' bn rb : Nat} {Ln Lr : Rows2} {Y Z : Nat → Prop} {r : Nat → Value} {e : Nat → List Sl} {r' : Nat → Value} {e' : Nat → List Sl} (h : PairAt B bn rb Ln Lr Y Z r e r' e' W) (hs : Calm B' W W') : PairAt B bn rb Ln Lr Y Z r e r' e' W' := by
  have := hs.size
  exact ⟨h.n.calm hs, h.f.calm hs, h.ap, h.sn, h.sf, fun g hg => ⟨by have := (h.y g hg).1; omega, (h.y g hg).2⟩, fun g hg => ⟨by have := (h.z g hg).1; omega, (h.z g hg).2⟩⟩
theorem PairAt.step {bn rb : Nat} {Ln Lr : Rows2} {Y Z : Nat → Prop} {r : Nat → Value} {e : Nat → List Sl} {r' : Nat → Value} {e' : Nat → List Sl} {S : List Nat} (h : PairAt B bn rb Ln Lr Y Z r e r' e' W) (hs : Step S W W') (hS : ∀ g ∈ S, g < W.heap.size → Shuns bn r e g ∧ Shuns rb r' e' g) : PairAt B bn rb Ln Lr Y Z r e r' e' W' := by
  have := hs.size
  exact ⟨h.n.kept (fun g hl hg => hs.same g hl (fun hm => hg (hS g hm hl).1)), h.f.kept (fun g hl hg => hs.same g hl (fun hm => hg (hS g hm hl).2)), h.ap, h.sn, h.sf, fun g hg => ⟨by have := (h.y g hg).1; omega, (h.y g hg).2⟩, fun g hg => ⟨by have := (h.z g hg).1; omega, (h.z g hg).2⟩⟩
theorem PairAt.odd {bn rb : Nat} {Ln Lr : Rows2} {Y Z : Nat → Prop} {r : Nat → Value} {e : Nat → List Sl} {r' : Nat → Value} {e' : Nat → List Sl} (h : PairAt B bn rb Ln Lr Y Z r e r' e' W) {g : Nat} {o : Obj} (ho : W.heap[g]? = some o) (ht : netTyped o = false) : Shuns bn r e g ∧ Shuns rb r' e' g := ⟨h.n.odd ho ht, h.f.odd ho ht⟩
theorem PairAt.fresh {bn rb : Nat} {Ln Lr : Rows2} {Y Z : Nat → Prop} {r : Nat → Value} {e : Nat → List Sl} {r' : Nat → Value} {e' : Nat → List Sl} (h : PairAt B bn rb Ln Lr Y Z r e r' e' W) {g : Nat} (hg : W.heap.size ≤ g) : Shuns bn r e g ∧ Shuns rb r' e' g := ⟨h.n.fresh hg, h.f.fresh hg⟩

/-- A row of the heap that is not what a net is made of goes along. -/
theorem Kept.stepB {B' : Nat} {v : Value} {k : Nat} {V : Nat → Nat → Value} (h : Kept B W v k V) (hs : StepB B' W W') : Kept B W' v k V := by
  obtain ⟨xs, ⟨hl, ho⟩, hx⟩ := h
  refine ⟨xs, ⟨hl, ?_⟩, hx⟩
  rcases ho with ho | ⟨g, cap, cur, h1, h2, h3, h4⟩
  · exact .inl ho
  · exact .inr ⟨g, cap, cur, h1, h2, hs.keep h3 rfl, h4⟩
theorem Kept.calm {B' : Nat} {v : Value} {k : Nat} {V : Nat → Nat → Value} (h : Kept B W v k V) (hs : Calm B' W W') : Kept B W' v k V := by
  obtain ⟨xs, ⟨hl, ho⟩, hx⟩ := h
  refine ⟨xs, ⟨hl, ?_⟩, hx⟩
  rcases ho with ho | ⟨g, cap, cur, h1, h2, h3, h4⟩
  · exact .inl ho
  · exact .inr ⟨g, cap, cur, h1, h2, obj_calm h3 hs rfl, h4⟩
theorem Kept.cells {v : Value} {K : Nat} {V : Nat → Nat → Value} (h : Kept B W v K V) {k : Nat} (hk : k < K) : ∃ g n, v = .slice (some ⟨g, 0, none⟩) K n ∧ K ≤ n ∧ n ≤ maxLen ∧ ∀ j, j < 5 → W.cell? ⟨g, k * 5 + j, none⟩ = (rowV (V k))[j]? := by
  obtain ⟨xs, ho, hx⟩ := h
  rcases ho with ⟨hl, ⟨_, h0⟩ | ⟨g, cap, cur, rfl, h2, h3, h4, h5, h6, h7⟩⟩
  · omega
  · refine ⟨g, cap, rfl, h4, h5, fun j hj => ?_⟩
    have hoo : W.ownsRow B 100 5 (.slice (some ⟨g, 0, none⟩) K cap) K xs := ⟨hl, .inr ⟨g, cap, cur, rfl, h2, h3, h4, h5, h6, h7⟩⟩
    rw [hoo.cellAt (k * 5 + j) (by omega)]
    exact hx k hk j hj
end

/-- What stays at the heads of NetPlays's loops, besides the two nets. -/
structure Base10 (w : World) (v7 : Value) (K : Nat) (V : Nat → Nat → Value) (Ds : List Nat) (W : World) : Prop where
  rs : Boxed W w.heap.size 4 (.bool false)
  kp : ∃ B, Kept B W v7 K V
  st : Step [] w W
  ds : ∀ D ∈ Ds, w.heap.size < D ∧ W.heap[D]? = some (.deferred (some []))
  nd : Ds.Nodup
section
variable {w W W' : World} {v7 : Value} {K : Nat} {V : Nat → Nat → Value} {Ds : List Nat}
theorem Base10.same (h : Base10 w v7 K V Ds W) (hs : Step [] W W') : Base10 w v7 K V Ds W' := by
  obtain ⟨B, hk⟩ := h.kp
  exact ⟨boxed_step h.rs hs (by simp), ⟨B, hk.same hs⟩, h.st.trans hs, fun D hD => ⟨(h.ds D hD).1, obj_step (h.ds D hD).2 hs (by simp)⟩, h.nd⟩
theorem Base10.stepB {B : Nat} (h : Base10 w v7 K V Ds W) (hs : StepB B W W') (hB : w.heap.size ≤ B) : Base10 w v7 K V Ds W' := by
  obtain ⟨B', hk⟩ := h.kp
  exact ⟨hs.keep h.rs rfl, ⟨B', hk.stepB hs⟩, StepB.after hB h.st hs, fun D hD => ⟨(h.ds D hD).1, hs.keep (h.ds D hD).2 rfl⟩, h.nd⟩
theorem Base10.calm {B : Nat} (h : Base10 w v7 K V Ds W) (hc : Calm B W W') (hB : w.heap.size ≤ B) (hD : ∀ D ∈ Ds, D < B) : Base10 w v7 K V Ds W' := by
  obtain ⟨B', hk⟩ := h.kp
  exact ⟨boxed_calm h.rs hc, ⟨B', hk.calm hc⟩, h.st.calm hc hB, fun D hD' => ⟨(h.ds D hD').1, hc.keep D _ (h.ds D hD').2 (.inr (hD D hD'))⟩, h.nd⟩
theorem Base10.more {D : Nat} (h : Base10 w v7 K V Ds W) (h1 : w.heap.size < D) (h2 : W.heap[D]? = some (.deferred (some []))) (h3 : D ∉ Ds) : Base10 w v7 K V (D :: Ds) W :=
  ⟨h.rs, h.kp, h.st, fun D' hD' => by
    rcases List.mem_cons.1 hD' with rfl | h'
    · exact ⟨h1, h2⟩
    · exact h.ds D' h', List.nodup_cons.2 ⟨h3, h.nd⟩⟩
/-- A write into a block of numbers. -/
theorem Base10.int {b : Nat} {u u' : Value} {t : TypeId} (h : Base10 w v7 K V Ds W) (hb : W.heap[b]? = some (.cells #[u] t)) (ht : heldType t = false) (ht2 : t = 3) (hw : w.heap.size ≤ b) : Base10 w v7 K V Ds (W.setCell ⟨b, 0, none⟩ u') := by
  subst ht2
  have hst : Step [b] W (W.setCell ⟨b, 0, none⟩ u') := Step.setObj hb rfl (by simp) _ _
  obtain ⟨B', xs, ⟨hl, ho⟩, hx⟩ := h.kp
  refine ⟨boxed_step h.rs hst (by simp; intro e; rw [← e] at hb; have := h.rs; unfold Boxed at this; rw [this] at hb; cases hb), ⟨B', xs, ⟨hl, ?_⟩, hx⟩, Step.after hw h.st hst, fun D hD => ⟨(h.ds D hD).1, obj_step (h.ds D hD).2 hst (by simp; intro e; have h2 := (h.ds D hD).2; rw [e, hb] at h2; cases h2)⟩, h.nd⟩
  rcases ho with ho | ⟨g, cap, cur, h1, h2, h3, h4⟩
  · exact .inl ho
  · exact .inr ⟨g, cap, cur, h1, h2, obj_step h3 hst (by simp; intro e; rw [e, hb] at h3; cases h3), h4⟩
/-- A write into a block of bytes. -/
theorem Base10.byte {g : Nat} {cur : Array Value} {f : Nat × Nat} (h : Base10 w v7 K V Ds W) (hs : Step [g] W W') (hb : W.heap[g]? = some (.cells cur 5 f)) (hw : w.heap.size ≤ g) : Base10 w v7 K V Ds W' :=
  h.stepB (StepB.one hs hw hb rfl) (Nat.le_refl _)
end

/-- What a loop over All goes along with: j: how many it has seen. -/
structure Rnd (w : World) (bn rb : Nat) (L : Rows2) (r : Nat → Value) (e : Nat → List Sl) (r' : Nat → Value) (e' : Nat → List Sl) (v7 : Value) (K : Nat) (V : Nat → Nat → Value) (Ds : List Nat) (b8 : Nat) (row : Value) (wy : Int) (j : Nat) (W : World) : Prop where
  pa : PairAt w.heap.size bn rb L L N0 N0 r e r' e' W
  pl : Base10 w v7 K V Ds W
  x8 : Boxed W b8 90 row
  x9 : Boxed W (b8 + 1) 3 (.int .i64 (j : Int))
  xa : Boxed W (b8 + 2) 70 (.pointer (some ⟨bn, 0, none⟩))
  xw : Boxed W (b8 + 3) 3 (.int .i64 wy)
section
variable {w W W' : World} {bn rb : Nat} {L : Rows2} {r : Nat → Value} {e : Nat → List Sl} {r' : Nat → Value} {e' : Nat → List Sl} {v7 : Value} {K : Nat} {V : Nat → Nat → Value} {Ds : List Nat} {b8 j : Nat} {row : Value} {wy : Int}
theorem Rnd.calm {B : Nat} (h : Rnd w bn rb L r e r' e' v7 K V Ds b8 row wy j W) (hc : Calm B W W') (hB : w.heap.size ≤ B) (hD : ∀ D ∈ Ds, D < B) : Rnd w bn rb L r e r' e' v7 K V Ds b8 row wy j W' :=
  ⟨h.pa.calm hc, h.pl.calm hc hB hD, boxed_calm h.x8 hc, boxed_calm h.x9 hc, boxed_calm h.xa hc, boxed_calm h.xw hc⟩
theorem Rnd.count (h : Rnd w bn rb L r e r' e' v7 K V Ds b8 row wy j W) (hw : w.heap.size ≤ b8) : Rnd w bn rb L r e r' e' v7 K V Ds b8 row wy (j + 1) (W.setCell ⟨b8 + 1, 0, none⟩ (.int .i64 ((j : Int) + 1))) ∧ Step [b8 + 1] W (W.setCell ⟨b8 + 1, 0, none⟩ (.int .i64 ((j : Int) + 1))) := by
  have hst : Step [b8 + 1] W (W.setCell ⟨b8 + 1, 0, none⟩ (.int .i64 ((j : Int) + 1))) := Step.setObj h.x9 rfl (by simp) _ _
  refine ⟨⟨h.pa.step hst (fun g hg _ => by simp at hg; subst hg; exact h.pa.odd h.x9 rfl), h.pl.int h.x9 rfl rfl (by omega), boxed_step h.x8 hst (by simp), ?_, boxed_step h.xa hst (by simp), boxed_step h.xw hst (by simp)⟩, hst⟩
  have := h.x9.set (.int .i64 ((j : Int) + 1))
  simpa using this
theorem Rnd.byte {g : Nat} {cur : Array Value} {f : Nat × Nat} (h : Rnd w bn rb L r e r' e' v7 K V Ds b8 row wy j W) (hs : Step [g] W W') (hb : W.heap[g]? = some (.cells cur 5 f)) (hw : w.heap.size ≤ g) (hsh : Shuns bn r e g ∧ Shuns rb r' e' g) : Rnd w bn rb L r e r' e' v7 K V Ds b8 row wy j W' :=
  have hB := StepB.one hs hw hb rfl
  ⟨h.pa.step hs (fun g' hg _ => by simp at hg; subst hg; exact hsh), h.pl.byte hs hb hw, hB.keep h.x8 rfl, hB.keep h.x9 rfl, hB.keep h.xa rfl, hB.keep h.xw rfl⟩
end
end Go.Proofs.Ytnomnhlfenhjdaa
