/- The reference's net: what it holds. No statement is proved here; nothing is assumed. -/
import Derived.Test.YtnomnhlfenhjdaaNetS
namespace Go.Proofs.Ytnomnhlfenhjdaa
open Go.RowKit Go.Shelf
set_option linter.unusedVariables false
set_option linter.unusedSimpArgs false

def RefObj (W : World) (b : Nat) (r0 r1 : Value) : Prop := W.heap[b]? = some (.cells #[r0, r1] 97)
theorem ref_cells {W : World} {b : Nat} {r0 r1 : Value} (h : RefObj W b r0 r1) : W.cell? ⟨b, 0, none⟩ = some r0 ∧ W.cell? ⟨b, 1, none⟩ = some r1 ∧ W.frozen? ⟨b, 0, none⟩ = false ∧ W.frozen? ⟨b, 1, none⟩ = false :=
  ⟨cells_cell h rfl, cells_cell h rfl, cells_frozen h, cells_frozen h⟩
/-- What the reference's net holds: the rows of both ways (r), their elements (e), what these hold (d). -/
structure RefAt (B : Nat) (W : World) (bn : Nat) (r : Nat → Value) (e : Nat → List Sl) (d : Nat → List (List Value)) : Prop where
  xo : RefObj W bn (r 0) (r 1)
  bn0 : B ≤ bn
  xr : ∀ k, k < 2 → OwnAt B W 68 (r k) ((e k).map encS)
  xl : ∀ k, k < 2 → (e k).length = (d k).length
  xd : ∀ k, k < 2 → ∀ (j : Nat) (s : Sl) (c : List Value), (e k)[j]? = some s → (d k)[j]? = some c → OwnAt B W 5 (encS s) c
  nr : ∀ g, (r 0).ownBlock = some g → (r 1).ownBlock ≠ some g
  ne : ∀ (k k' j j' : Nat) (s s' : Sl) (g : Nat), k < 2 → k' < 2 → (e k)[j]? = some s → (e k')[j']? = some s' → (encS s).ownBlock = some g → (encS s').ownBlock = some g → k = k' ∧ j = j'

section
variable {B : Nat} {W W' : World} {bn : Nat} {r : Nat → Value} {e : Nat → List Sl} {d : Nat → List (List Value)}
theorem RefAt.same (h : RefAt B W bn r e d) (hs : Step [] W W') : RefAt B W' bn r e d :=
  ⟨obj_step h.xo hs (by simp), h.bn0, fun k hk => (h.xr k hk).same hs, h.xl, fun k hk j s c h1 h2 => (h.xd k hk j s c h1 h2).same hs, h.nr, h.ne⟩
theorem RefAt.size (h : RefAt B W bn r e d) : B ≤ W.heap.size := by have := heap_lt h.xo; have := h.bn0; omega
theorem RefAt.cell (h : RefAt B W bn r e d) {way : Nat} (hw : way < 2) : W.cell? ⟨bn, way, none⟩ = some (r way) ∧ W.frozen? ⟨bn, way, none⟩ = false := by
  have hc : way = 0 ∨ way = 1 := by omega
  rcases hc with rfl | rfl
  · exact ⟨(ref_cells h.xo).1, (ref_cells h.xo).2.2.1⟩
  · exact ⟨(ref_cells h.xo).2.1, (ref_cells h.xo).2.2.2⟩
theorem RefAt.rowOf (h : RefAt B W bn r e d) {way : Nat} (hw : way < 2) : rowOf way (r 0) (r 1) = r way := by
  have hc : way = 0 ∨ way = 1 := by omega
  rcases hc with rfl | rfl <;> rfl
theorem RefAt.rowBlock (h : RefAt B W bn r e d) {way g : Nat} (hw : way < 2) (hg : (r way).ownBlock = some g) : B ≤ g ∧ g < W.heap.size ∧ g ≠ bn := by
  obtain ⟨h1, h2, cur, hc⟩ := (h.xr way hw).block hg
  exact ⟨h1, h2, ne_types hc h.xo (by decide)⟩
theorem RefAt.rows (h : RefAt B W bn r e d) {k k' g : Nat} (hk : k < 2) (hk' : k' < 2) (hne : k ≠ k') (h1 : (r k).ownBlock = some g) : (r k').ownBlock ≠ some g := by
  have hc : (k = 0 ∧ k' = 1) ∨ (k = 1 ∧ k' = 0) := by omega
  rcases hc with ⟨rfl, rfl⟩ | ⟨rfl, rfl⟩
  · exact h.nr g h1
  · exact fun h2 => h.nr g h2 h1
theorem RefAt.elem (h : RefAt B W bn r e d) {k j : Nat} {s : Sl} (hk : k < 2) (hs : (e k)[j]? = some s) : ∃ c, (d k)[j]? = some c ∧ OwnAt B W 5 (encS s) c := by
  have hl := h.xl k hk
  have hj := (List.getElem?_eq_some_iff.1 hs).1
  exact ⟨_, List.getElem?_eq_getElem (by omega), h.xd k hk j s _ hs (List.getElem?_eq_getElem (by omega))⟩

/-- THE ROW OF A WAY IS ANOTHER: behind a step that turned at most the row's block, and the store of the new row. -/
theorem RefAt.turn (h : RefAt B W bn r e d) {way : Nat} (hw : way < 2) {v' : Value} {es : List Sl} {ds : List (List Value)} (hs : ∀ S, (∀ g, (r way).ownBlock = some g → g ∈ S) → Step S W W') (ho : OwnAt B W' 68 v' (es.map encS)) (hb : ∀ g, v'.ownBlock = some g → (r way).ownBlock = some g ∨ W.heap.size ≤ g)
    (hl : es.length = ds.length) (hd : ∀ (j : Nat) (s : Sl) (c : List Value), es[j]? = some s → ds[j]? = some c → OwnAt B W' 5 (encS s) c)
    (hn : ∀ (k' j j' : Nat) (s s' : Sl) (g : Nat), k' < 2 → es[j]? = some s → (upd e way es k')[j']? = some s' → (encS s).ownBlock = some g → (encS s').ownBlock = some g → way = k' ∧ j = j') :
    RefAt B (W'.setCell ⟨bn, way, none⟩ v') bn (upd r way v') (upd e way es) (upd d way ds) ∧ StepB B W (W'.setCell ⟨bn, way, none⟩ v') ∧ W'.cell? ⟨bn, way, none⟩ = some (r way) ∧ W'.frozen? ⟨bn, way, none⟩ = false ∧ (∀ v c, OwnAt B W 5 v c → OwnAt B (W'.setCell ⟨bn, way, none⟩ v') 5 v c) := by
  have hs1 := hs ((r way).ownBlock.toList) (fun g hg => by simp [hg])
  have xo' : RefObj W' bn (r 0) (r 1) := obj_step h.xo hs1 (fun hm => by simp at hm; exact (h.rowBlock hw hm).2.2 rfl)
  have hset : Step [bn] W' (W'.setCell ⟨bn, way, none⟩ v') := Step.setObj xo' rfl (by simp) _ _
  have hc : way = 0 ∨ way = 1 := by omega
  have xc : W'.cell? ⟨bn, way, none⟩ = some (r way) ∧ W'.frozen? ⟨bn, way, none⟩ = false := by
    rcases hc with rfl | rfl
    · exact ⟨(ref_cells xo').1, (ref_cells xo').2.2.1⟩
    · exact ⟨(ref_cells xo').2.1, (ref_cells xo').2.2.2⟩
  have nb5 : ∀ {s : Sl} {c : List Value} {X : World}, RefObj X bn (r 0) (r 1) → OwnAt B X 5 (encS s) c → ∀ g, (encS s).ownBlock = some g → g ≠ bn := fun hx ho g hg => by
    obtain ⟨_, _, cur, hcur⟩ := ho.block hg
    exact ne_types hcur hx (by decide)
  have nb68 : ∀ {v : Value} {c : List Value} {X : World}, RefObj X bn (r 0) (r 1) → OwnAt B X 68 v c → ∀ g, v.ownBlock = some g → g ≠ bn := fun hx ho g hg => by
    obtain ⟨_, _, cur, hcur⟩ := ho.block hg
    exact ne_types hcur hx (by decide)
  refine ⟨⟨?_, h.bn0, fun k hk => ?_, fun k hk => ?_, fun k hk j s c h1 h2 => ?_, fun g h1 h2 => ?_, fun k k' j j' s s' g hk hk' h1 h2 h3 h4 => ?_⟩, ?_, xc.1, xc.2, fun v c h3 => ?_⟩
  · rcases hc with rfl | rfl
    · exact setCell_obj xo' 0 _
    · exact setCell_obj xo' 1 _
  · by_cases hkw : k = way
    · subst hkw
      rw [upd_same, upd_same]
      exact ho.step hset (fun g hg => by simp; exact nb68 xo' ho g hg)
    · rw [upd_other _ _ hkw, upd_other _ _ hkw]
      have h1 := (h.xr k hk).step hs1 (fun g hg hm => by simp at hm; exact h.rows hk hw hkw hg hm)
      exact h1.step hset (fun g hg => by simp; exact nb68 xo' h1 g hg)
  · by_cases hkw : k = way
    · subst hkw; rw [upd_same, upd_same]; exact hl
    · rw [upd_other _ _ hkw, upd_other _ _ hkw]; exact h.xl k hk
  · by_cases hkw : k = way
    · subst hkw
      rw [upd_same] at h1 h2
      have h3 := hd j s c h1 h2
      exact h3.step hset (fun g hg => by simp; exact nb5 xo' h3 g hg)
    · rw [upd_other _ _ hkw] at h1 h2
      have h3 := (h.xd k hk j s c h1 h2)
      have h4 := h3.step hs1 (fun g hg hm => by
        simp at hm
        obtain ⟨_, _, c1, hc1⟩ := h3.block hg
        obtain ⟨_, _, c2, hc2⟩ := (h.xr way hw).block hm
        exact ne_types hc1 hc2 (by decide) rfl)
      exact h4.step hset (fun g hg => by simp; exact nb5 xo' h4 g hg)
  · have hother : ∀ k, k < 2 → k ≠ way → ∀ g, v'.ownBlock = some g → (r k).ownBlock ≠ some g := fun k hk hkw g hv hr => by
      rcases hb g hv with h5 | h5
      · exact h.rows hw hk (fun e => hkw e.symm) h5 hr
      · have := (h.rowBlock hk hr).2.1; omega
    rcases hc with rfl | rfl
    · rw [upd_same] at h1; rw [upd_other _ _ (by omega)] at h2; exact hother 1 (by omega) (by omega) g h1 h2
    · rw [upd_other _ _ (by omega)] at h1; rw [upd_same] at h2; exact hother 0 (by omega) (by omega) g h2 h1
  · by_cases hkw : k = way
    · subst hkw
      rw [upd_same] at h1
      exact hn k' j j' s s' g hk' h1 h2 h3 h4
    · by_cases hkw' : k' = way
      · subst hkw'
        rw [upd_same] at h2
        have := hn k j' j s' s g hk h2 h1 h4 h3
        exact ⟨this.1.symm, this.2.symm⟩
      · rw [upd_other _ _ hkw] at h1
        rw [upd_other _ _ hkw'] at h2
        exact h.ne k k' j j' s s' g hk hk' h1 h2 h3 h4
  · refine StepB.trans ⟨_, fun i hi => ?_, hs1⟩ (StepB.one hset h.bn0 xo' rfl)
    simp at hi
    obtain ⟨hb1, _, cur, hcur⟩ := (h.xr way hw).block hi
    exact ⟨hb1, fun o ho => by rw [hcur] at ho; cases ho; rfl⟩
  · have h4 := h3.step hs1 (fun g hg hm => by
      simp at hm
      obtain ⟨_, _, c1, hc1⟩ := h3.block hg
      obtain ⟨_, _, c2, hc2⟩ := (h.xr way hw).block hm
      exact ne_types hc1 hc2 (by decide) rfl)
    exact h4.step hset (fun g hg => by
      obtain ⟨_, _, c1, hc1⟩ := h4.block hg
      simp; exact ne_types hc1 xo' (by decide))
end

/-- One more element in a row. -/
theorem RefAt.push {B : Nat} {W W' : World} {bn : Nat} {r : Nat → Value} {e : Nat → List Sl} {d : Nat → List (List Value)} (h : RefAt B W bn r e d) {way : Nat} (hw : way < 2) {v' : Value} {s : Sl} {c : List Value}
    (ho : OwnAt B W 5 (encS s) c) (hf : ∀ g, (encS s).ownBlock = some g → ∀ k, k < 2 → ∀ (j : Nat) (s' : Sl), (e k)[j]? = some s' → (encS s').ownBlock ≠ some g)
    (hs : ∀ S, (∀ g, (r way).ownBlock = some g → g ∈ S) → Step S W W') (hown : OwnAt B W' 68 v' ((e way).map encS ++ [encS s])) (hb : ∀ g, v'.ownBlock = some g → (r way).ownBlock = some g ∨ W.heap.size ≤ g) :
    RefAt B (W'.setCell ⟨bn, way, none⟩ v') bn (upd r way v') (upd e way (e way ++ [s])) (upd d way (d way ++ [c])) ∧ StepB B W (W'.setCell ⟨bn, way, none⟩ v') ∧ W'.cell? ⟨bn, way, none⟩ = some (r way) ∧ W'.frozen? ⟨bn, way, none⟩ = false ∧ (∀ v c, OwnAt B W 5 v c → OwnAt B (W'.setCell ⟨bn, way, none⟩ v') 5 v c) := by
  have hs1 := hs ((r way).ownBlock.toList) (fun g hg => by simp [hg])
  have hgo : ∀ {s : Sl} {c : List Value}, OwnAt B W 5 (encS s) c → OwnAt B W' 5 (encS s) c := fun h3 => h3.step hs1 (fun g hg hm => by
    simp at hm
    obtain ⟨_, _, c1, hc1⟩ := h3.block hg
    obtain ⟨_, _, c2, hc2⟩ := (h.xr way hw).block hm
    exact ne_types hc1 hc2 (by decide) rfl)
  have hlen := h.xl way hw
  refine h.turn hw hs (by simpa using hown) hb (by simp [hlen]) (fun j s1 c1 h1 h2 => ?_) (fun k' j j' s1 s2 g hk' h1 h2 h3 h4 => ?_)
  · by_cases hj : j < (e way).length
    · rw [List.getElem?_append_left hj] at h1
      rw [List.getElem?_append_left (by omega)] at h2
      exact hgo (h.xd way hw j s1 c1 h1 h2)
    · rw [List.getElem?_append_right (by omega)] at h1
      rw [List.getElem?_append_right (by omega)] at h2
      have hj0 : j - (e way).length = 0 := by
        have := (List.getElem?_eq_some_iff.1 h1).1
        simp at this; omega
      rw [hj0] at h1
      rw [show j - (d way).length = 0 by omega] at h2
      simp at h1 h2
      subst h1 h2
      exact hgo ho
  · have hcase : ∀ {j : Nat} {s1 : Sl}, (e way ++ [s])[j]? = some s1 → ((e way)[j]? = some s1) ∨ (j = (e way).length ∧ s1 = s) := by
      intro j s1 h1
      by_cases hj : j < (e way).length
      · rw [List.getElem?_append_left hj] at h1; exact .inl h1
      · rw [List.getElem?_append_right (by omega)] at h1
        have hj0 : j - (e way).length = 0 := by
          have := (List.getElem?_eq_some_iff.1 h1).1
          simp at this; omega
        rw [hj0] at h1
        simp at h1
        exact .inr ⟨by omega, h1.symm⟩
    by_cases hkw : k' = way
    · subst hkw
      rw [upd_same] at h2
      rcases hcase h1 with h5 | ⟨h5, h6⟩
      · rcases hcase h2 with h7 | ⟨h7, h8⟩
        · exact h.ne k' k' j j' s1 s2 g hk' hk' h5 h7 h3 h4
        · subst h8; exact absurd h3 (hf g h4 k' hk' j s1 h5)
      · subst h6
        rcases hcase h2 with h7 | ⟨h7, h8⟩
        · exact absurd h4 (hf g h3 k' hk' j' s2 h7)
        · exact ⟨rfl, by omega⟩
    · rw [upd_other _ _ hkw] at h2
      rcases hcase h1 with h5 | ⟨h5, h6⟩
      · exact h.ne way k' j j' s1 s2 g hw hk' h5 h2 h3 h4
      · subst h6
        exact absurd h4 (hf g h3 k' hk' j' s2 h2)

/-- One element fewer in a row. -/
theorem RefAt.drop {B : Nat} {W W' : World} {bn : Nat} {r : Nat → Value} {e : Nat → List Sl} {d : Nat → List (List Value)} (h : RefAt B W bn r e d) {way i : Nat} (hw : way < 2) (hi : i < (e way).length) {v' : Value}
    (hs : ∀ S, (∀ g, (r way).ownBlock = some g → g ∈ S) → Step S W W') (hown : OwnAt B W' 68 v' (((e way).eraseIdx i).map encS)) (hb : v'.ownBlock = (r way).ownBlock) :
    RefAt B (W'.setCell ⟨bn, way, none⟩ v') bn (upd r way v') (upd e way ((e way).eraseIdx i)) (upd d way ((d way).eraseIdx i)) ∧ StepB B W (W'.setCell ⟨bn, way, none⟩ v') ∧ W'.cell? ⟨bn, way, none⟩ = some (r way) ∧ W'.frozen? ⟨bn, way, none⟩ = false ∧ (∀ v c, OwnAt B W 5 v c → OwnAt B (W'.setCell ⟨bn, way, none⟩ v') 5 v c) := by
  have hs1 := hs ((r way).ownBlock.toList) (fun g hg => by simp [hg])
  have hgo : ∀ {s : Sl} {c : List Value}, OwnAt B W 5 (encS s) c → OwnAt B W' 5 (encS s) c := fun h3 => h3.step hs1 (fun g hg hm => by
    simp at hm
    obtain ⟨_, _, c1, hc1⟩ := h3.block hg
    obtain ⟨_, _, c2, hc2⟩ := (h.xr way hw).block hm
    exact ne_types hc1 hc2 (by decide) rfl)
  have hlen := h.xl way hw
  have hat : ∀ {α : Type} (l : List α) (j : Nat), (l.eraseIdx i)[j]? = l[if j < i then j else j + 1]? := fun l j => by
    rw [List.getElem?_eraseIdx]; split <;> rfl
  refine h.turn hw hs hown (fun g hg => .inl (hb ▸ hg)) (by rw [List.length_eraseIdx_of_lt hi, List.length_eraseIdx_of_lt (by omega), hlen]) (fun j s1 c1 h1 h2 => ?_) (fun k' j j' s1 s2 g hk' h1 h2 h3 h4 => ?_)
  · rw [hat] at h1 h2
    exact hgo (h.xd way hw _ s1 c1 h1 h2)
  · rw [hat] at h1
    by_cases hkw : k' = way
    · subst hkw
      rw [upd_same, hat] at h2
      have h5 := (h.ne k' k' _ _ s1 s2 g hk' hk' h1 h2 h3 h4).2
      refine ⟨rfl, ?_⟩
      by_cases a1 : j < i <;> by_cases a2 : j' < i <;> simp [a1, a2] at h5 <;> omega
    · rw [upd_other _ _ hkw] at h2
      exact absurd (h.ne way k' _ _ s1 s2 g hw hk' h1 h2 h3 h4).1 (fun e => hkw e.symm)

/-- A byte of one element is written. -/
theorem RefAt.poke {B : Nat} {W : World} {bn : Nat} {r : Nat → Value} {e : Nat → List Sl} {d : Nat → List (List Value)} (h : RefAt B W bn r e d) {way i kd g off n cap : Nat} {c : List Value} (hw : way < 2) (hs : (e way)[i]? = some (some ⟨g, off, none⟩, n, cap)) (hc : (d way)[i]? = some c) (hk : kd < c.length) (v : Value) :
    RefAt B (W.setCell ⟨g, off + kd, none⟩ v) bn r e (upd d way ((d way).set i (c.set kd v))) ∧ StepB B W (W.setCell ⟨g, off + kd, none⟩ v) := by
  have ho := h.xd way hw i _ c hs hc
  have hgb : (encS (some ⟨g, off, none⟩, n, cap)).ownBlock = some g := rfl
  obtain ⟨hB, hlt, cur0, hg0⟩ := ho.block hgb
  have hst : Step [g] W (W.setCell ⟨g, off + kd, none⟩ v) := Step.setObj hg0 rfl (by simp) _ _
  have hdl : i < (d way).length := (List.getElem?_eq_some_iff.1 hc).1
  refine ⟨⟨obj_step h.xo hst (by simp; exact (ne_types hg0 h.xo (by decide)).symm), h.bn0, fun k hk' => (h.xr k hk').step hst (fun g' hg' => ?_), fun k hk' => ?_, fun k hk' j s c1 h1 h2 => ?_, h.nr, h.ne⟩, StepB.one hst hB hg0 rfl⟩
  · obtain ⟨_, _, cc, hcc⟩ := (h.xr k hk').block hg'
    simp; exact ne_types hcc hg0 (by decide)
  · by_cases hkw : k = way
    · subst hkw; rw [upd_same, List.length_set]; exact h.xl k hk'
    · rw [upd_other _ _ hkw]; exact h.xl k hk'
  · by_cases hkw : k = way
    · subst hkw
      rw [upd_same] at h2
      by_cases hji : j = i
      · subst hji
        rw [hs] at h1
        cases h1
        rw [List.getElem?_set_self hdl] at h2
        cases h2
        rcases ho with ⟨hn, _⟩ | ⟨g9, off9, cap9, cur9, hv9, hb9, hg9, h5, h6, h7, h8⟩
        · cases hn
        · cases hv9
          refine .inr ⟨g, off, cap, _, by simp [encS], hb9, setCell_obj hg9 _ _, by simpa using h5, h6, by simpa using h7, fun j' hj' => ?_⟩
          rw [List.length_set] at hj'
          by_cases hjk : j' = kd
          · subst hjk
            rw [Array.getElem?_setIfInBounds_self_of_lt (by omega), List.getElem?_set_self hj']
          · rw [Array.getElem?_setIfInBounds_ne (by omega), h8 j' hj', List.getElem?_set_ne (by omega)]
      · rw [List.getElem?_set_ne (by omega)] at h2
        refine (h.xd k hk' j s c1 h1 h2).step hst (fun g' hg' hm => ?_)
        simp at hm
        subst hm
        exact hji (h.ne k k j i s _ g' hk' hk' h1 hs hg' hgb).2
    · rw [upd_other _ _ hkw] at h2
      refine (h.xd k hk' j s c1 h1 h2).step hst (fun g' hg' hm => ?_)
      simp at hm
      subst hm
      exact hkw (h.ne k way j i s _ g' hk' hw h1 hs hg' hgb).1

end Go.Proofs.Ytnomnhlfenhjdaa
