/- IntakeTakes: what its rounds keep; own's bytes turned; the copy. No statement is proved here; nothing is assumed. -/
import Derived.Test.YtbainekfbonbjaaTakL
namespace Go.Proofs.Ytbainekfbonbjaa
open Go.RowKit Go.Shelf
set_option linter.unusedVariables false
set_option linter.unusedSimpArgs false

section
variable {B : Nat} {W W' : World} {bi bm F Ft : Nat} {M : Ents} {f : Kept7} {tp : Option Addr} {iv : Value} {N : Nat} {V : Nat → Nat → Value} {S : List Nat}
/-- The copy, if it was made: its floor. -/
def TwinAt (W : World) (bi : Nat) (tp : Option Addr) (Ft : Nat) : Prop := tp = none ∨ ∃ ci cm, tp = some ⟨ci, 0, none⟩ ∧ ci ≠ bi ∧ IntObj W ci Ft (some cm)
theorem TwinAt.step (h : TwinAt W bi tp Ft) (hs : Step S W W') (hS : ∀ i ∈ S, i = bi ∨ ∀ F m, ¬ IntObj W i F m) : TwinAt W' bi tp Ft := by
  rcases h with h | ⟨ci, cm, h1, h2, h3⟩
  · exact .inl h
  · exact .inr ⟨ci, cm, h1, h2, obj_step h3 hs (fun hm => (hS _ hm).elim h2 (fun h => h _ _ h3))⟩
theorem TwinAt.same (h : TwinAt W bi tp Ft) (hs : Step [] W W') : TwinAt W' bi tp Ft := h.step hs (by simp)
theorem int_not_map {i F : Nat} {m : Option Nat} {es : Array MapEntry} {c : Nat} (h : W.heap[i]? = some (.map es c)) : ¬ IntObj W i F m := fun h2 => by
  have h3 : W.heap[i]? = some (intObj F m) := h2
  rw [h] at h3; cases h3
theorem int_not_ref {i F : Nat} {m : Option Nat} (h : ∀ o, W.heap[i]? = some o → RefTy o) : ¬ IntObj W i F m := fun h2 => by
  obtain ⟨c, e, fr, h3, h4⟩ := h _ h2
  unfold intObj at h3
  injection h3 with q1 q2 q3
  subst q2
  rcases h4 with h | h <;> cases h
theorem int_not_cells {i F t : Nat} {m : Option Nat} {cur : Array Value} (h : W.heap[i]? = some (.cells cur t (0, 0))) (ht : t ≠ 101) : ¬ IntObj W i F m := fun h2 => by
  have h3 : W.heap[i]? = some (intObj F m) := h2
  rw [h] at h3
  unfold intObj at h3
  injection h3 with h3
  injection h3 with q1 q2 q3
  exact ht q2
theorem TwinAt.overI (h : TwinAt W bi tp Ft) (hi : IntM B W bi bm F M f) (hs : Step [bi, bm] W W') : TwinAt W' bi tp Ft :=
  h.step hs (fun i hm => by
    simp at hm
    rcases hm with e | e
    · exact .inl e
    · obtain ⟨es, c, hb⟩ := hi.m.block
      exact .inr fun F m => e ▸ int_not_map hb)
theorem TwinAt.overR (h : TwinAt W bi tp Ft) (hs : StepR B W W') : TwinAt W' bi tp Ft := by
  obtain ⟨S, h1, h2⟩ := hs
  exact h.step h1 (fun i hm => .inr fun F m => int_not_ref (h2 i hm).2)
theorem TwinAt.poke {go : Nat} {cur : Array Value} (h : TwinAt W bi tp Ft) (hs : Step [go] W W') (hg : W.heap[go]? = some (.cells cur 5 (0, 0))) : TwinAt W' bi tp Ft :=
  h.step hs (fun i hm => by simp at hm; subst hm; exact .inr fun F m => int_not_cells hg (by decide))
theorem KeptI.step (h : KeptI B W iv N V) (hs : Step S W W') (hS : ∀ i ∈ S, ∀ cur, W.heap[i]? ≠ some (.cells cur 115 (0, 0))) : KeptI B W' iv N V := by
  obtain ⟨xs, ⟨hl, ho⟩, hx⟩ := h
  refine ⟨xs, row_step ⟨hl, ho⟩ hs (fun g hg hm => ?_), hx⟩
  rcases ho with ho | ⟨g', cap, cur, h1, h2, h3, h4⟩
  · rw [ho.1] at hg; cases hg
  · rw [h1] at hg
    cases hg
    exact hS _ hm _ h3
theorem KeptI.overI (h : KeptI B W iv N V) (hi : IntM B W bi bm F M f) (hs : Step [bi, bm] W W') : KeptI B W' iv N V :=
  h.step hs (fun i hm cur hc => by
    simp at hm
    rcases hm with e | e
    · have ho : W.heap[bi]? = some (intObj F (some bm)) := hi.o
      rw [← e, hc] at ho; cases ho
    · obtain ⟨es, c, hb⟩ := hi.m.block
      rw [← e, hc] at hb; cases hb)
theorem refTy_not {W : World} {i t : Nat} (ht : t ≠ 112 ∧ t ≠ 148) (h : ∀ o, W.heap[i]? = some o → RefTy o) : ∀ cur, W.heap[i]? ≠ some (.cells cur t (0, 0)) := fun cur hc => by
  obtain ⟨c, e, fr, h1, h2⟩ := h _ hc
  injection h1 with q1 q2 q3
  subst q2
  rcases h2 with h | h
  · exact ht.1 h
  · exact ht.2 h
theorem KeptI.overR (h : KeptI B W iv N V) (hs : StepR B W W') : KeptI B W' iv N V := by
  obtain ⟨S, h1, h2⟩ := hs
  exact h.step h1 (fun i hm => refTy_not (by decide) (h2 i hm).2)
theorem KeptI.poke {go : Nat} {cur : Array Value} (h : KeptI B W iv N V) (hs : Step [go] W W') (hg : W.heap[go]? = some (.cells cur 5 (0, 0))) : KeptI B W' iv N V :=
  h.step hs (fun i hm cur' hc => by simp at hm; subst hm; rw [hg] at hc; cases hc)
theorem KeptI.at {k : Nat} (h : KeptI B W iv N V) (hk : k < N) {q : Option Addr} {kk n c : Nat} (h0 : V k 0 = .int .u32 (kk : Int)) (h1 : V k 1 = .slice q n c) :
    ∃ g cap, iv = .slice (some ⟨g, 0, none⟩) N cap ∧ N ≤ cap ∧ cap ≤ maxLen ∧ W.cell? ⟨g, k * 2, none⟩ = some (.int .u32 (kk : Int)) ∧ W.cell? ⟨g, k * 2 + 1, none⟩ = some (.slice q (min n 300) c) := by
  obtain ⟨xs, ho, hx⟩ := h
  have e0 := hx k hk 0 (by omega)
  have e1 := hx k hk 1 (by omega)
  unfold rowV at e0 e1
  rw [h0, h1] at e0 e1
  obtain ⟨g, cap, r1, r2, r3, r4, _⟩ := row_cell ho e0
  obtain ⟨g', cap', r1', _, _, r4', _⟩ := row_cell ho e1
  rw [r1] at r1'
  injection r1' with r1' _ r5
  injection r1' with r1'
  injection r1' with r1'
  subst r1'
  exact ⟨g, cap, r1, r2, r3, by simpa using r4, r4'⟩
end
section
/-- own, whose first j bytes have turned. -/
def BumpAt (b2 : Nat) (W5 : World) (v : Value) (p : List Nat) (j : Nat) (W : World) : Prop :=
  (p = [] ∧ W = W5) ∨ ∃ g off cap cur cur', v = .slice (some ⟨g, off, none⟩) p.length cap ∧ b2 ≤ g ∧ W5.heap[g]? = some (.cells cur 5 (0, 0)) ∧ Step [g] W5 W ∧ W.heap[g]? = some (.cells cur' 5 (0, 0)) ∧ off + p.length ≤ cur'.size ∧
    ∀ i, j ≤ i → i < p.length → cur'[off + i]? = (u8s p)[i]?
theorem BumpAt.start {b2 : Nat} {W5 : World} {v : Value} {p : List Nat} (h : OwnAt b2 W5 5 v (u8s p)) : BumpAt b2 W5 v p 0 W5 := by
  rcases h with ⟨_, h⟩ | ⟨g, off, cap, cur, h1, h2, h3, h4, h5, h6, h7⟩
  · refine .inl ⟨?_, rfl⟩
    have := congrArg List.length h
    rw [u8s_length] at this
    exact List.eq_nil_of_length_eq_zero (by simpa using this)
  · rw [u8s_length] at h1 h4 h7
    exact .inr ⟨g, off, cap, cur, cur, h1, h2, h3, Step.refl _ _, h3, by omega, fun i _ hi => h7 i hi⟩
theorem BumpAt.next {b2 : Nat} {W5 W : World} {q : Option Addr} {n cap j : Nat} {p : List Nat} (h : BumpAt b2 W5 (.slice q n cap) p j W) (hj : j < p.length) :
    ∃ g off x, q = some ⟨g, off, none⟩ ∧ W.cell? ⟨g, off + j, none⟩ = some (.int .u8 ((x : Nat) : Int)) ∧ W.frozen? ⟨g, off + j, none⟩ = false ∧ ∀ y, BumpAt b2 W5 (.slice q n cap) p (j + 1) (W.setCell ⟨g, off + j, none⟩ (.int .u8 y)) := by
  rcases h with ⟨h, _⟩ | ⟨g, off, cap', cur, cur', h1, h2, h3, h4, h5, h6, h7⟩
  · rw [h] at hj; simp at hj
  · injection h1 with e1 e2 e3
    subst e1
    have hx : (u8s p)[j]? = some (.int .u8 ((p[j] : Nat) : Int)) := by rw [u8s_get, List.getElem?_eq_getElem hj]; rfl
    refine ⟨g, off, p[j], rfl, cells_cell h5 ((h7 j (Nat.le_refl _) hj).trans hx), cells_frozen h5, fun y => .inr ⟨g, off, cap, cur, cur'.setIfInBounds (off + j) (.int .u8 y), by rw [e2], h2, h3, h4.trans (Step.setObj h5 rfl (by simp) _ _), setCell_obj h5 _ _, by simpa using h6, fun i hi hl => ?_⟩⟩
    rw [Array.getElem?_setIfInBounds, if_neg (by omega)]
    exact h7 i (by omega) hl
theorem BumpAt.out {b2 : Nat} {W5 W : World} {v : Value} {j : Nat} {p : List Nat} (h : BumpAt b2 W5 v p j W) : Step [] W5 W ∨ ∃ g cur, b2 ≤ g ∧ v.ownBlock = some g ∧ W5.heap[g]? = some (.cells cur 5 (0, 0)) ∧ Step [g] W5 W := by
  rcases h with ⟨_, rfl⟩ | ⟨g, off, cap', cur, cur', h1, h2, h3, h4, h5, h6, h7⟩
  · exact .inl (Step.refl _ _)
  · exact .inr ⟨g, cur, h2, by rw [h1]; rfl, h3, h4⟩
end
/-- What the rounds of IntakeTakes keep. -/
structure TwoAt (w : World) (bi bm br N : Nat) (iv : Value) (V : Nat → Nat → Value) (k : Nat) (tp : Option Addr) (Ft F : Nat) (sv : Value) (M K : Ents) (f : Kept7) (W : World) : Prop where
  i : IntM w.heap.size W bi bm F M f
  r : RefM w.heap.size W br F sv K f
  lm : F + M.length ≤ k
  lk : F + K.length ≤ k
  it : KeptI w.heap.size W iv N V
  st : Step [] w W
  tw : TwinAt W bi tp Ft
section
variable {w W W' : World} {bi bm br N k Ft F : Nat} {iv sv : Value} {V : Nat → Nat → Value} {tp : Option Addr} {M K : Ents} {f : Kept7}
theorem TwoAt.same (h : TwoAt w bi bm br N iv V k tp Ft F sv M K f W) (hs : Step [] W W') : TwoAt w bi bm br N iv V k tp Ft F sv M K f W' :=
  ⟨h.i.same hs, h.r.same hs, h.lm, h.lk, h.it.same hs, h.st.trans hs, h.tw.same hs⟩
/-- In the midst of a round: the intake has taken. -/
theorem TwoAt.mid {W3 W4 : World} {F' : Nat} {M' : Ents} {f' : Kept7} (h : TwoAt w bi bm br N iv V k tp Ft F sv M K f W) (s3 : Step [] W W3) (g3 : IntM w.heap.size W4 bi bm F' M' f') (g8 : Step [bi, bm] W3 W4) :
    RefM w.heap.size W4 br F sv K f ∧ w.heap.size ≤ W4.heap.size ∧ KeptI w.heap.size W4 iv N V ∧ Step [] w W4 ∧ TwinAt W4 bi tp Ft :=
  ⟨(h.r.same s3).overI (h.i.same s3) g8, by have := h.st.size; have := s3.size; have := g8.size; omega, (h.it.same s3).overI (h.i.same s3) g8,
   (h.st.trans s3).trans' g8 (fun i hi _ => hi) (fun i hi hl => by have := h.i.lo; simp at hi; rcases hi with rfl | rfl <;> omega), (h.tw.same s3).overI (h.i.same s3) g8⟩
theorem own_int {W3 W4 : World} {B b2 : Nat} {own : Value} {p : List Nat} (hi : IntM B W3 bi bm F M f) (g8 : Step [bi, bm] W3 W4) (ho : OwnAt b2 W3 5 own (u8s p)) : OwnAt b2 W4 5 own (u8s p) :=
  ho.apart g8 (fun i hm cur hc => by
    simp at hm
    rcases hm with e | e
    · have ho : W3.heap[bi]? = some (intObj F (some bm)) := hi.o
      rw [← e, hc] at ho; cases ho
    · obtain ⟨es, c, hb⟩ := hi.m.block
      rw [← e, hc] at hb; cases hb)
theorem item_int {W3 W4 : World} {B b8 : Nat} {cs : Array Value} (hi : IntM B W3 bi bm F M f) (g8 : Step [bi, bm] W3 W4) (ho : W3.heap[b8]? = some (.cells cs 115 (0, 0))) : W4.heap[b8]? = some (.cells cs 115 (0, 0)) :=
  obj_step ho g8 (fun hm => by
    simp at hm
    rcases hm with e | e
    · have h2 : W3.heap[bi]? = some (intObj F (some bm)) := hi.o
      rw [← e, ho] at h2; cases h2
    · obtain ⟨es, c, hb⟩ := hi.m.block
      rw [← e, ho] at hb; cases hb)
theorem pay_not {B : Nat} (hr : RepK (PayAt B W) M f) {g : Nat} (hg : W.heap.size ≤ g) : ∀ q ∈ M, q.2.ownBlock ≠ some g := fun q hq e => by
  obtain ⟨p, _, hp⟩ := hr.to q.1 q.2 hq
  obtain ⟨cur, hc⟩ := hp.block e
  have := heap_lt hc
  omega
theorem T7.small {F n fate err F' : Nat} {f f' : Kept7} {p : List Nat} {L : List (List Nat)} (h : T7 F f n p fate err L F' f') : L.length ≤ F' := by
  rcases h with ⟨_, _, _, rfl, _⟩ | ⟨_, _, _, _, rfl, _⟩ | ⟨_, _, _, _, _, rfl, _⟩ | ⟨_, _, _, _, _, _, _, h, _⟩ <;> simp_all
theorem TwoAt.round {W3 W4 W5 W6 : World} {own v v2 sv' : Value} {vals vals2 : List Value} {p : List Nat} {L L2 : List (List Nat)} {n fate err F' fate2 err2 F2 j : Nat} {M' K' : Ents} {f' f2 : Kept7}
    (h : TwoAt w bi bm br N iv V k tp Ft F sv M K f W) (hk : k < 80) (s3 : Step [] W W3) (ho : OwnAt W.heap.size W3 5 own (u8s p))
    (g1 : OwnAt W3.heap.size W4 71 v vals) (g2 : Pays w.heap.size W4 vals L) (g3 : IntM w.heap.size W4 bi bm F' M' f') (g4 : T7 F f n p fate err L F' f') (g5 : F' + M'.length ≤ F + M.length + 1)
    (g6 : ∀ q ∈ M', Old M W3.heap.size q.2) (g7 : ∀ u ∈ vals, Old M W3.heap.size u) (g8 : Step [bi, bm] W3 W4)
    (r1 : OwnAt W4.heap.size W5 71 v2 vals2) (r2 : Pays w.heap.size W5 vals2 L2) (r3 : RefM w.heap.size W5 br F2 sv' K' f2) (r4 : T7 F f n p fate2 err2 L2 F2 f2) (r5 : F2 + K'.length ≤ F + K.length + 1)
    (r6 : ∀ q ∈ K', Old K W4.heap.size q.2) (r7 : ∀ u ∈ vals2, Old K W4.heap.size u) (r8 : StepR w.heap.size W4 W5) (hb : BumpAt W.heap.size W5 own p j W6) :
    fate2 = fate ∧ err2 = err ∧ F2 = F' ∧ L.length ≤ 1000 ∧ TwoAt w bi bm br N iv V (k + 1) tp Ft F' sv' M' K' f' W6 ∧ OwnAt 0 W6 71 v vals ∧ Pays w.heap.size W6 vals L ∧ OwnAt 0 W6 71 v2 vals2 ∧ Pays w.heap.size W6 vals2 L := by
  obtain ⟨rfl, rfl, rfl, rfl, rfl⟩ := g4.uniq r4
  obtain ⟨m1, m2, m3, m4, m5⟩ := h.mid s3 g3 g8
  have hsm := g4.small
  have hlm := h.lm
  have hlk := h.lk
  refine ⟨rfl, rfl, rfl, by omega, ?_⟩
  -- at W5
  have i5 := g3.overR r8
  have k5 := m3.overR r8
  have t5 := m5.overR r8
  have st5 := r8.low m4 (Nat.le_refl _)
  have a5 : OwnAt W3.heap.size W5 71 v vals := by
    obtain ⟨S, h1, h2⟩ := r8
    exact g1.apart h1 (fun i hm => refTy_not (by decide) (h2 i hm).2)
  have p5 : Pays w.heap.size W5 vals L2 := by
    obtain ⟨S, h1, h2⟩ := r8
    exact g2.apart h1 (fun i hm => refTy_not (by decide) (h2 i hm).2)
  rcases hb.out with hs | ⟨g, cur, hg2, hgo, hgc, hs⟩
  · exact ⟨⟨i5.same hs, r3.same hs, by omega, by omega, k5.same hs, st5.trans hs, t5.same hs⟩, (a5.same hs).low (Nat.zero_le _), p5.same hs, (r1.same hs).low (Nat.zero_le _), r2.same hs⟩
  · have hlt3 : g < W3.heap.size := (ho.block hgo).2.1
    have hlt4 : g < W4.heap.size := by have := g8.size; omega
    have hM := pay_not h.i.r hg2
    have hK := pay_not h.r.r hg2
    have hap : ∀ i ∈ [g], ∀ cur, W5.heap[i]? ≠ some (.cells cur 71 (0, 0)) := fun i hi cur' hc => by
      simp at hi; subst hi; rw [hgc] at hc; cases hc
    refine ⟨⟨i5.poke hs hgc (fun q hq => old_not (g6 q hq) hlt3 hM), r3.poke hs hgc (fun q hq => old_not (r6 q hq) hlt4 hK), by omega, by omega, k5.poke hs hgc, ?_, t5.poke hs hgc⟩, (a5.apart hs hap).low (Nat.zero_le _), p5.poke hs (fun u hu => old_not (g7 u hu) hlt3 hM),
      (r1.apart hs hap).low (Nat.zero_le _), r2.poke hs (fun u hu => old_not (r7 u hu) hlt4 hK)⟩
    exact st5.trans' hs (fun i hi _ => hi) (fun i hi hl => by simp at hi; subst hi; have := h.st.size; omega)
end
theorem takeAllN (B bi bm F : Nat) (M : Ents) (f : Kept7) (q : Option Addr) (cap n : Nat) (p : List Nat) (w : World) (h : IntM B w bi bm F M f) (hB : B ≤ w.heap.size) (hp : ∀ x ∈ p, x < 256) (n3 : Nat) (h3 : n3 = p.length) (hr : Reads w (.slice q n3 cap) (u8s p))
    (hn : n < 4294967296) (hF : F + M.length ≤ 800) :
    Calls Try.prog 62 #[.pointer (some ⟨bi, 0, none⟩), .int .u32 (n : Int), .slice q n3 cap] w fun e w' => ∃ (v : Value) (vals : List Value) (L : List (List Nat)) (fate err F' : Nat) (M' : Ents) (f' : Kept7),
      e = .returned (.tuple #[v, .int .i64 (fate : Int), .int .i64 (err : Int)]) ∧ OwnAt w.heap.size w' 71 v vals ∧ Pays B w' vals L ∧ IntM B w' bi bm F' M' f' ∧ T7 F f n p fate err L F' f' ∧ F' + M'.length ≤ F + M.length + 1 ∧
      (∀ q ∈ M', Old M w.heap.size q.2) ∧ (∀ u ∈ vals, Old M w.heap.size u) ∧ Step [bi, bm] w w' := by
  subst h3
  exact takeAll B bi bm F M f q cap n p w h hB hp hr hn hF
theorem refTakeAllN (B br F : Nat) (sv : Value) (K : Ents) (f : Kept7) (q : Option Addr) (cap n : Nat) (p : List Nat) (w : World) (h : RefM B w br F sv K f) (hB : B ≤ w.heap.size) (hp : ∀ x ∈ p, x < 256) (n3 : Nat) (h3 : n3 = p.length) (hr : Reads w (.slice q n3 cap) (u8s p))
    (hn : n < 4294967296) (hF : F + K.length ≤ 800) :
    Calls Try.prog 72 #[.pointer (some ⟨br, 0, none⟩), .int .u32 (n : Int), .slice q n3 cap] w fun e w' => ∃ (v : Value) (vals : List Value) (L : List (List Nat)) (fate err F' : Nat) (sv' : Value) (K' : Ents) (f' : Kept7),
      e = .returned (.tuple #[v, .int .i64 (fate : Int), .int .i64 (err : Int)]) ∧ OwnAt w.heap.size w' 71 v vals ∧ Pays B w' vals L ∧ RefM B w' br F' sv' K' f' ∧ T7 F f n p fate err L F' f' ∧ F' + K'.length ≤ F + K.length + 1 ∧
      (∀ q ∈ K', Old K w.heap.size q.2) ∧ (∀ u ∈ vals, Old K w.heap.size u) ∧ StepR B w w' := by
  subst h3
  exact refTakeAll B br F sv K f q cap n p w h hB hp hr hn hF
end Go.Proofs.Ytbainekfbonbjaa
