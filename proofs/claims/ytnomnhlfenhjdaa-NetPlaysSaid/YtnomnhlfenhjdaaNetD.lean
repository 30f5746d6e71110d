/- net: what a net holds; Send. No statement is proved here; nothing is assumed. -/
import Derived.Test.YtnomnhlfenhjdaaNetC
import Derived.OwnWalkIn
import Derived.TacticsInMore
import Derived.LoopNIn
import Derived.LoopIn
import Derived.Deep.QuietTactic
import Derived.BigQuiet
import Derived.Maps.OwnIn
import Derived.Deep.RegionHeld3
import Derived.Laws.Bits64
namespace Go.Proofs.Ytnomnhlfenhjdaa
open Go.RowKit Go.Shelf
set_option linter.unusedVariables false
set_option linter.unusedSimpArgs false
attribute [local go_sem] Oper.semAt_some


/-- The blocks that a net is made of: its own, its rows, its datagrams. -/
def netTyped : Obj → Bool
  | .cells _ t _ => t == 5 || t == 68 || t == 93 || t == 97
  | _ => false
/-- Blocks from B on may have turned, and of these those alone that a net can be made of. -/
def StepB (B : Nat) (W W' : World) : Prop := ∃ S, (∀ i ∈ S, B ≤ i ∧ ∀ o, W.heap[i]? = some o → netTyped o = true) ∧ Step S W W'
theorem StepB.refl {B : Nat} (W : World) : StepB B W W := ⟨[], by simp, Step.refl _ _⟩
theorem StepB.of {B : Nat} {W W' : World} (h : Step [] W W') : StepB B W W' := ⟨[], by simp, h⟩
theorem StepB.one {B b : Nat} {W W' : World} (h : Step [b] W W') (hb : B ≤ b) {o : Obj} (ho : W.heap[b]? = some o) (ht : netTyped o = true) : StepB B W W' :=
  ⟨[b], fun i hi => by simp at hi; subst hi; exact ⟨hb, fun o' ho' => by rw [ho] at ho'; cases ho'; exact ht⟩, h⟩
theorem StepB.trans {B : Nat} {X Y Z : World} (h : StepB B X Y) (k : StepB B Y Z) : StepB B X Z := by
  obtain ⟨S, h1, h2⟩ := h
  obtain ⟨T, k1, k2⟩ := k
  refine ⟨S ++ T, fun i hi => ?_, h2.trans' k2 (fun i hi _ => List.mem_append.2 (.inl hi)) (fun i hi _ => List.mem_append.2 (.inr hi))⟩
  by_cases hS : i ∈ S
  · exact h1 i hS
  · rcases List.mem_append.1 hi with hi | hi
    · exact absurd hi hS
    · exact ⟨(k1 i hi).1, fun o ho => (k1 i hi).2 o ((h2.same i (heap_lt ho) hS).trans ho)⟩
/-- What a net is not made of stays. -/
theorem StepB.keep {B b : Nat} {W W' : World} (h : StepB B W W') {o : Obj} (ho : W.heap[b]? = some o) (ht : netTyped o = false) : W'.heap[b]? = some o := by
  obtain ⟨S, h1, h2⟩ := h
  exact obj_step ho h2 (fun hm => by have := (h1 b hm).2 o ho; rw [ht] at this; cases this)
theorem StepB.nil {W W' : World} (h : StepB W.heap.size W W') : Step [] W W' := by
  obtain ⟨S, h1, h2⟩ := h
  exact h2.mono (fun i hi hl => absurd (h1 i hi).1 (by omega))
theorem ne_types {W : World} {a b : Nat} {c c' : Array Value} {t t' : TypeId} {f f' : Nat × Nat} (h : W.heap[a]? = some (.cells c t f)) (h' : W.heap[b]? = some (.cells c' t' f')) (ht : t ≠ t') : a ≠ b := by
  rintro rfl
  rw [h] at h'
  cases h'
  exact ht rfl

def upd {α : Type} (f : Nat → α) (k : Nat) (x : α) : Nat → α := fun i => if i = k then x else f i
theorem upd_same {α : Type} (f : Nat → α) (k : Nat) (x : α) : upd f k x k = x := if_pos rfl
theorem upd_other {α : Type} (f : Nat → α) {k i : Nat} (x : α) (h : i ≠ k) : upd f k x i = f i := if_neg h

/-- What a net holds: the rows of both ways (r), their elements (e), what these hold (d). -/
structure NetAt (B : Nat) (W : World) (bn : Nat) (r : Nat → Value) (e : Nat → List Sl) (d : Nat → List (List Value)) : Prop where
  xo : NetObj W bn (r 0) (r 1)
  bn0 : B ≤ bn
  xr : ∀ k, k < 2 → OwnAt B W 68 (r k) ((e k).map encS)
  xl : ∀ k, k < 2 → (e k).length = (d k).length
  xd : ∀ k, k < 2 → ∀ (j : Nat) (s : Sl) (c : List Value), (e k)[j]? = some s → (d k)[j]? = some c → OwnAt B W 5 (encS s) c
  nr : ∀ g, (r 0).ownBlock = some g → (r 1).ownBlock ≠ some g
  ne : ∀ (k k' j j' : Nat) (s s' : Sl) (g : Nat), k < 2 → k' < 2 → (e k)[j]? = some s → (e k')[j']? = some s' → (encS s).ownBlock = some g → (encS s').ownBlock = some g → k = k' ∧ j = j'

section
variable {B : Nat} {W W' : World} {bn : Nat} {r : Nat → Value} {e : Nat → List Sl} {d : Nat → List (List Value)}
theorem NetAt.same (h : NetAt B W bn r e d) (hs : Step [] W W') : NetAt B W' bn r e d :=
  ⟨obj_step h.xo hs (by simp), h.bn0, fun k hk => (h.xr k hk).same hs, h.xl, fun k hk j s c h1 h2 => (h.xd k hk j s c h1 h2).same hs, h.nr, h.ne⟩
theorem NetAt.size (h : NetAt B W bn r e d) : B ≤ W.heap.size := by have := heap_lt h.xo; have := h.bn0; omega
theorem NetAt.cell (h : NetAt B W bn r e d) {way : Nat} (hw : way < 2) : W.cell? ⟨bn, 1 + way, none⟩ = some (r way) ∧ W.frozen? ⟨bn, 1 + way, none⟩ = false := by
  have hc : way = 0 ∨ way = 1 := by omega
  rcases hc with rfl | rfl
  · exact ⟨(net_cells h.xo).2.1, (net_cells h.xo).2.2.2.1⟩
  · exact ⟨(net_cells h.xo).2.2.1, (net_cells h.xo).2.2.2.2⟩
theorem NetAt.rowOf (h : NetAt B W bn r e d) {way : Nat} (hw : way < 2) : rowOf way (r 0) (r 1) = r way := by
  have hc : way = 0 ∨ way = 1 := by omega
  rcases hc with rfl | rfl <;> rfl
theorem NetAt.rowBlock (h : NetAt B W bn r e d) {way g : Nat} (hw : way < 2) (hg : (r way).ownBlock = some g) : B ≤ g ∧ g < W.heap.size ∧ g ≠ bn := by
  obtain ⟨h1, h2, cur, hc⟩ := (h.xr way hw).block hg
  exact ⟨h1, h2, ne_types hc h.xo (by decide)⟩
theorem NetAt.rows (h : NetAt B W bn r e d) {k k' g : Nat} (hk : k < 2) (hk' : k' < 2) (hne : k ≠ k') (h1 : (r k).ownBlock = some g) : (r k').ownBlock ≠ some g := by
  have hc : (k = 0 ∧ k' = 1) ∨ (k = 1 ∧ k' = 0) := by omega
  rcases hc with ⟨rfl, rfl⟩ | ⟨rfl, rfl⟩
  · exact h.nr g h1
  · exact fun h2 => h.nr g h2 h1
theorem NetAt.elem (h : NetAt B W bn r e d) {k j : Nat} {s : Sl} (hk : k < 2) (hs : (e k)[j]? = some s) : ∃ c, (d k)[j]? = some c ∧ OwnAt B W 5 (encS s) c := by
  have hl := h.xl k hk
  have hj := (List.getElem?_eq_some_iff.1 hs).1
  exact ⟨_, List.getElem?_eq_getElem (by omega), h.xd k hk j s _ hs (List.getElem?_eq_getElem (by omega))⟩

/-- THE ROW OF A WAY IS ANOTHER: behind a step that turned at most the row's block, and the store of the new row. -/
theorem NetAt.turn (h : NetAt B W bn r e d) {way : Nat} (hw : way < 2) {v' : Value} {es : List Sl} {ds : List (List Value)} (hs : ∀ S, (∀ g, (r way).ownBlock = some g → g ∈ S) → Step S W W') (ho : OwnAt B W' 68 v' (es.map encS)) (hb : ∀ g, v'.ownBlock = some g → (r way).ownBlock = some g ∨ W.heap.size ≤ g)
    (hl : es.length = ds.length) (hd : ∀ (j : Nat) (s : Sl) (c : List Value), es[j]? = some s → ds[j]? = some c → OwnAt B W' 5 (encS s) c)
    (hn : ∀ (k' j j' : Nat) (s s' : Sl) (g : Nat), k' < 2 → es[j]? = some s → (upd e way es k')[j']? = some s' → (encS s).ownBlock = some g → (encS s').ownBlock = some g → way = k' ∧ j = j') :
    NetAt B (W'.setCell ⟨bn, 1 + way, none⟩ v') bn (upd r way v') (upd e way es) (upd d way ds) ∧ StepB B W (W'.setCell ⟨bn, 1 + way, none⟩ v') ∧ W'.cell? ⟨bn, 1 + way, none⟩ = some (r way) ∧ W'.frozen? ⟨bn, 1 + way, none⟩ = false ∧ (∀ v c, OwnAt B W 5 v c → OwnAt B (W'.setCell ⟨bn, 1 + way, none⟩ v') 5 v c) := by
  have hs1 := hs ((r way).ownBlock.toList) (fun g hg => by simp [hg])
  have xo' : NetObj W' bn (r 0) (r 1) := obj_step h.xo hs1 (fun hm => by simp at hm; exact (h.rowBlock hw hm).2.2 rfl)
  have hset : Step [bn] W' (W'.setCell ⟨bn, 1 + way, none⟩ v') := Step.setObj xo' rfl (by simp) _ _
  have hc : way = 0 ∨ way = 1 := by omega
  have xc : W'.cell? ⟨bn, 1 + way, none⟩ = some (r way) ∧ W'.frozen? ⟨bn, 1 + way, none⟩ = false := by
    rcases hc with rfl | rfl
    · exact ⟨(net_cells xo').2.1, (net_cells xo').2.2.2.1⟩
    · exact ⟨(net_cells xo').2.2.1, (net_cells xo').2.2.2.2⟩
  have nb5 : ∀ {s : Sl} {c : List Value} {X : World}, NetObj X bn (r 0) (r 1) → OwnAt B X 5 (encS s) c → ∀ g, (encS s).ownBlock = some g → g ≠ bn := fun hx ho g hg => by
    obtain ⟨_, _, cur, hcur⟩ := ho.block hg
    exact ne_types hcur hx (by decide)
  have nb68 : ∀ {v : Value} {c : List Value} {X : World}, NetObj X bn (r 0) (r 1) → OwnAt B X 68 v c → ∀ g, v.ownBlock = some g → g ≠ bn := fun hx ho g hg => by
    obtain ⟨_, _, cur, hcur⟩ := ho.block hg
    exact ne_types hcur hx (by decide)
  refine ⟨⟨?_, h.bn0, fun k hk => ?_, fun k hk => ?_, fun k hk j s c h1 h2 => ?_, fun g h1 h2 => ?_, fun k k' j j' s s' g hk hk' h1 h2 h3 h4 => ?_⟩, ?_, xc.1, xc.2, fun v c h3 => ?_⟩
  · rcases hc with rfl | rfl
    · exact setCell_obj xo' 1 _
    · exact setCell_obj xo' 2 _
  · by_cases hkw : k = way
    · subst hkw
      rw [upd_same, upd_same]
      exact ho.step hset (fun g hg => by simp; exact nb68 xo' ho g hg)
    · rw [upd_other _ _ hkw, upd_other _ _ hkw]
      have h1 := (h.xr k hk).step hs1 (fun g hg hm => by simp at hm; exact h.rows hk hw hkw hg hm)
      exact h1.step hset (fun g hg => by simp; exact nb68 xo' h1 g hg)
  · by_cases hkw : k = way
    · subst hkw; rw [upd_same, upd_same]; exact hl
    · rw [upd_other _ _ hkw, upd_other _ _ hkw]; exact h.xl k hk
  · by_cases hkw : k = way
    · subst hkw
      rw [upd_same] at h1 h2
      have h3 := hd j s c h1 h2
      exact h3.step hset (fun g hg => by simp; exact nb5 xo' h3 g hg)
    · rw [upd_other _ _ hkw] at h1 h2
      have h3 := (h.xd k hk j s c h1 h2)
      have h4 := h3.step hs1 (fun g hg hm => by
        simp at hm
        obtain ⟨_, _, c1, hc1⟩ := h3.block hg
        obtain ⟨_, _, c2, hc2⟩ := (h.xr way hw).block hm
        exact ne_types hc1 hc2 (by decide) rfl)
      exact h4.step hset (fun g hg => by simp; exact nb5 xo' h4 g hg)
  · have hother : ∀ k, k < 2 → k ≠ way → ∀ g, v'.ownBlock = some g → (r k).ownBlock ≠ some g := fun k hk hkw g hv hr => by
      rcases hb g hv with h5 | h5
      · exact h.rows hw hk (fun e => hkw e.symm) h5 hr
      · have := (h.rowBlock hk hr).2.1; omega
    rcases hc with rfl | rfl
    · rw [upd_same] at h1; rw [upd_other _ _ (by omega)] at h2; exact hother 1 (by omega) (by omega) g h1 h2
    · rw [upd_other _ _ (by omega)] at h1; rw [upd_same] at h2; exact hother 0 (by omega) (by omega) g h2 h1
  · by_cases hkw : k = way
    · subst hkw
      rw [upd_same] at h1
      exact hn k' j j' s s' g hk' h1 h2 h3 h4
    · by_cases hkw' : k' = way
      · subst hkw'
        rw [upd_same] at h2
        have := hn k j' j s' s g hk h2 h1 h4 h3
        exact ⟨this.1.symm, this.2.symm⟩
      · rw [upd_other _ _ hkw] at h1
        rw [upd_other _ _ hkw'] at h2
        exact h.ne k k' j j' s s' g hk hk' h1 h2 h3 h4
  · refine StepB.trans ⟨_, fun i hi => ?_, hs1⟩ (StepB.one hset h.bn0 xo' rfl)
    simp at hi
    obtain ⟨hb1, _, cur, hcur⟩ := (h.xr way hw).block hi
    exact ⟨hb1, fun o ho => by rw [hcur] at ho; cases ho; rfl⟩
  · have h4 := h3.step hs1 (fun g hg hm => by
      simp at hm
      obtain ⟨_, _, c1, hc1⟩ := h3.block hg
      obtain ⟨_, _, c2, hc2⟩ := (h.xr way hw).block hm
      exact ne_types hc1 hc2 (by decide) rfl)
    exact h4.step hset (fun g hg => by
      obtain ⟨_, _, c1, hc1⟩ := h4.block hg
      simp; exact ne_types hc1 xo' (by decide))
end

/-- Block g is no block of the net. -/
def Shuns (bn : Nat) (r : Nat → Value) (e : Nat → List Sl) (g : Nat) : Prop := g ≠ bn ∧ (∀ k, k < 2 → (r k).ownBlock ≠ some g) ∧ ∀ k, k < 2 → ∀ (j : Nat) (s : Sl), (e k)[j]? = some s → (encS s).ownBlock ≠ some g
/-- What is no block of the net stays, and stays none. -/
def Leaves (bn : Nat) (r : Nat → Value) (e : Nat → List Sl) (r1 : Nat → Value) (e1 : Nat → List Sl) (w w' : World) : Prop := ∀ g, g < w.heap.size → Shuns bn r e g → Shuns bn r1 e1 g ∧ w'.heap[g]? = w.heap[g]?
theorem leaves_push {bn way : Nat} {r : Nat → Value} {e : Nat → List Sl} {v v' : Value} {s : Sl} {w w1 w4 : World} {o : Obj} {off : Nat} (hw : way < 2) (hR : r way = v) (hs1 : Step [] w w1) (hst : ∀ S, (∀ g, v.ownBlock = some g → g ∈ S) → Step S (w1.alloc o) w4)
    (hblk : ∀ g, v'.ownBlock = some g → v.ownBlock = some g ∨ (w1.alloc o).heap.size ≤ g) (hs : ∀ g, (encS s).ownBlock = some g → w.heap.size ≤ g) : Leaves bn r e (upd r way v') (upd e way (e way ++ [s])) w (w4.setCell ⟨bn, off, none⟩ v') := by
  intro g hg ⟨h1, h2, h3⟩
  have hz := hs1.size
  refine ⟨⟨h1, fun k hk => ?_, fun k hk j s' hj => ?_⟩, ?_⟩
  · by_cases e : k = way
    · subst e
      rw [upd_same]
      intro h
      rcases hblk g h with h | h
      · exact h2 k hk (by rw [hR]; exact h)
      · simp at h; omega
    · rw [upd_other _ _ e]; exact h2 k hk
  · by_cases e1 : k = way
    · subst e1
      rw [upd_same] at hj
      by_cases hl : j < (e k).length
      · rw [List.getElem?_append_left hl] at hj; exact h3 k hk j s' hj
      · rw [List.getElem?_append_right (by omega)] at hj
        have : s' = s := by
          have hl2 := (List.getElem?_eq_some_iff.1 hj).1
          simp at hl2
          have h0 : j - (e k).length = 0 := by omega
          rw [h0] at hj
          simpa using hj.symm
        subst this
        intro h
        have := hs g h
        omega
    · rw [upd_other _ _ e1] at hj; exact h3 k hk j s' hj
  · have hS := hst v.ownBlock.toList (fun g hg => by simp [hg])
    rw [Below.heap_setCell w4 _ _ g h1, hS.same g (by simp; omega) (by simp; rw [← hR]; exact h2 way hw)]
    rw [Below.heap_alloc w1 o g (by omega)]
    exact hs1.same g hg (by simp)
theorem leaves_drop {bn way i : Nat} {r : Nat → Value} {e : Nat → List Sl} {v v' : Value} {w w4 : World} {off : Nat} (hw : way < 2) (hR : r way = v) (hst : ∀ S, (∀ g, v.ownBlock = some g → g ∈ S) → Step S w w4) (hblk : v'.ownBlock = v.ownBlock) : Leaves bn r e (upd r way v') (upd e way ((e way).eraseIdx i)) w (w4.setCell ⟨bn, off, none⟩ v') := by
  intro g hg ⟨h1, h2, h3⟩
  refine ⟨⟨h1, fun k hk => ?_, fun k hk j s' hj => ?_⟩, ?_⟩
  · by_cases e : k = way
    · subst e
      rw [upd_same, hblk, ← hR]; exact h2 k hk
    · rw [upd_other _ _ e]; exact h2 k hk
  · by_cases e1 : k = way
    · subst e1
      rw [upd_same, List.getElem?_eraseIdx] at hj
      split at hj
      · exact h3 k hk _ s' hj
      · exact h3 k hk _ s' hj
    · rw [upd_other _ _ e1] at hj; exact h3 k hk j s' hj
  · have hS := hst v.ownBlock.toList (fun g hg => by simp [hg])
    rw [Below.heap_setCell w4 _ _ g h1]
    exact hS.same g hg (by simp; rw [← hR]; exact h2 way hw)
theorem Leaves.trans {bn : Nat} {r r1 r2 : Nat → Value} {e e1 e2 : Nat → List Sl} {w w1 w2 : World} (h : Leaves bn r e r1 e1 w w1) (k : Leaves bn r1 e1 r2 e2 w1 w2) (hz : w.heap.size ≤ w1.heap.size) : Leaves bn r e r2 e2 w w2 := fun g hg hs => by
  obtain ⟨a1, a2⟩ := h g hg hs
  obtain ⟨b1, b2⟩ := k g (by omega) a1
  exact ⟨b1, b2.trans a2⟩
theorem Leaves.same {bn : Nat} {r : Nat → Value} {e : Nat → List Sl} {w w1 : World} (h : Step [] w w1) : Leaves bn r e r e w w1 := fun g hg hs => ⟨hs, h.same g hg (by simp)⟩
end Go.Proofs.Ytnomnhlfenhjdaa
