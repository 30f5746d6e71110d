/- IntakeTakes: the reference's Take, where it takes. No statement is proved here; nothing is assumed. -/
import Derived.Test.YtbainekfbonbjaaTakC
namespace Go.Proofs.Ytbainekfbonbjaa
open Go.RowKit Go.Shelf Go.Maps
set_option linter.unusedVariables false
set_option linter.unusedSimpArgs false
attribute [local go_sem] Oper.semAt_some

set_option maxRecDepth 100000 in
theorem append_nils (W : World) : (Builtin.append_ #[71, 71] 71 #[.slice none 0 0, .slice none 0 0]).run Try.prog W = .ok (.slice none 0 0) W := by kernel_rfl
theorem append_nil71 (W : World) (q : Option Addr) (len cap : Nat) (vals : List Value) (hr : Reads W (.slice q len cap) vals) (h1c : ∀ u ∈ vals, u.oneCell' = true) (hl : vals.length < 1000000) :
    ∃ v' W', (Builtin.append_ #[71, 71] 71 #[.slice none 0 0, .slice q len cap]).run Try.prog W = .ok v' W' ∧ OwnAt W.heap.size W' 5 v' vals ∧ Step [] W W' := by
  obtain ⟨i0, hi, hz0, hz1, hz2⟩ := info_parts info5
  cases q with
  | none =>
    rcases hr with ⟨q', cap', h1, rfl, h2, _⟩ | ⟨b, off, cap', h1, _⟩
    · injection h1 with e1 e2 e3
      subst e1 e2 e3
      have := h2 rfl
      subst this
      exact ⟨_, W, append_nils W, ownAt_nil _ _ _, Step.refl _ _⟩
    · cases h1
  | some ad =>
    have hn : len = vals.length := by
      rcases hr with ⟨q, cap, h, rfl, _⟩ | ⟨b, off, cap, h, _⟩
      · cases h; rfl
      · cases h; rfl
    have hcells : ∀ (j : Nat) u, vals[j]? = some u → W.cell? (ad.add j) = some u := by
      intro j u hj
      rcases hr with ⟨q, cap, h, rfl, _⟩ | ⟨b, off, cap, h, _, _, hc⟩
      · simp at hj
      · cases h
        rw [add_plain', hc j (List.getElem?_eq_some_iff.1 hj).1, hj]
    subst hn
    obtain ⟨v', W', hrun, r1, r2, _⟩ := run_append_own (P := Try.prog) W W.heap.size 71 71 5 i0 (.int .u8 0) 1 1 Try.underlying71 hi hz0 hz1 hz2 rfl (by decide) (.slice none 0 0) 0 [] (World.ownsRow_nil W _ 5 1) ad vals.length cap vals (by omega) hcells h1c (by unfold maxLen; omega) (by omega) (Nat.le_refl _)
    refine ⟨v', W', hrun, .ofRow (by simpa using r1), Step.grown r2 (fun j hj => by cases hj)⟩

/-! ### The row of numbered values: one is written over, the last is left out -/
theorem flat_set : ∀ (K : Ents) (r k : Nat) (v : Value), r < K.length → flat (K.set r (k, v)) = ((flat K).set (r * 2) (.int .u32 (k : Int))).set (r * 2 + 1) v
  | [], r, k, v, h => by simp at h
  | p :: t, 0, k, v, h => rfl
  | p :: t, r + 1, k, v, h => by
    have ih := flat_set t r k v (by simpa using h)
    have e : ∀ (p : Nat × Value) t, flat (p :: t) = .int .u32 (p.1 : Int) :: p.2 :: flat t := fun _ _ => rfl
    rw [List.set_cons_succ, e, ih, e, show (r + 1) * 2 = r * 2 + 1 + 1 by omega, show r * 2 + 1 + 1 + 1 = (r * 2 + 1) + 1 + 1 by omega]
    rfl
theorem flat_append (K L : Ents) : flat (K ++ L) = flat K ++ flat L := by simp [flat]
theorem row_set {W : World} {B size n i g cap : Nat} {e : TypeId} {x : Value} {xs : List Value} (h : W.ownsRow B e size (.slice (some ⟨g, 0, none⟩) n cap) n xs) (hi : i < xs.length) (he : heldType e = false) :
    (W.setCell ⟨g, i, none⟩ x).ownsRow B e size (.slice (some ⟨g, 0, none⟩) n cap) n (xs.set i x) ∧ Step [g] W (W.setCell ⟨g, i, none⟩ x) := by
  obtain ⟨hl, ⟨h0, _⟩ | ⟨g', cap', cur, hv, hb, hg, h1, h2, h3, h4⟩⟩ := h
  · cases h0
  · cases hv
    refine ⟨⟨by rw [List.length_set]; exact hl, .inr ⟨g, cap, cur.setIfInBounds i x, rfl, hb, setCell_obj hg i x, h1, h2, by simpa using h3, ?_⟩⟩, Step.setObj hg he (by simp) _ _⟩
    rw [Array.toList_setIfInBounds, List.take_set, h4]
theorem row_shrink {W : World} {B g n cap : Nat} {K : Ents} (h : W.ownsRow B 148 2 (.slice (some ⟨g, 0, none⟩) (n + 1) cap) (n + 1) (flat K)) (hK : K.length = n + 1) : W.ownsRow B 148 2 (.slice (some ⟨g, 0, none⟩) n cap) n (flat K.dropLast) := by
  obtain ⟨hl, ⟨h0, _⟩ | ⟨g', cap', cur, hv, hb, hg, h1, h2, h3, h4⟩⟩ := h
  · cases h0
  · cases hv
    have hd : K.dropLast.length = n := by simp; omega
    refine ⟨by rw [flat_len, hd], .inr ⟨g, cap, cur, rfl, hb, hg, by omega, h2, h3, ?_⟩⟩
    have hne : K ≠ [] := fun e => by rw [e] at hK; simp at hK
    have hsp := List.dropLast_concat_getLast hne
    have hf : flat K = flat K.dropLast ++ flat [K.getLast hne] := by rw [← flat_append, hsp]
    have h5 := congrArg (List.take (n * 2)) h4
    have h6 : List.take (n * 2) (flat K.dropLast) = flat K.dropLast := List.take_of_length_le (by rw [flat_len, hd]; exact Nat.le_refl _)
    rw [List.take_take, Nat.min_eq_left (by omega), hf, List.take_append_of_le_length (by rw [flat_len, hd]; exact Nat.le_refl _), h6] at h5
    exact h5

/-! ### What the reference's Take may turn -/
def RefTy (o : Obj) : Prop := ∃ cur e fr, o = .cells cur e fr ∧ (e = 112 ∨ e = 148)
/-- Of the old blocks only such as a reference's intake is made of have turned, none of them older than B. -/
def StepR (B : Nat) (w0 W : World) : Prop := ∃ S, Step S w0 W ∧ ∀ i ∈ S, B ≤ i ∧ ∀ o, w0.heap[i]? = some o → RefTy o
theorem StepR.of {B : Nat} {w0 W : World} (h : Step [] w0 W) : StepR B w0 W := ⟨[], h, by simp⟩
theorem StepR.push {B : Nat} {w0 W W' : World} {S' : List Nat} (h : StepR B w0 W) (hs : Step S' W W') (hS : ∀ i ∈ S', B ≤ i ∧ (w0.heap.size ≤ i ∨ ∀ o, W.heap[i]? = some o → RefTy o)) : StepR B w0 W' := by
  obtain ⟨S, h1, h2⟩ := h
  refine ⟨S ++ S', h1.trans' hs (fun i hi _ => List.mem_append_left _ hi) (fun i hi _ => List.mem_append_right _ hi), fun i hi => ?_⟩
  by_cases hm : i ∈ S
  · exact h2 i hm
  · have hi' := (List.mem_append.1 hi).resolve_left hm
    refine ⟨(hS i hi').1, fun o ho => ?_⟩
    rcases (hS i hi').2 with h3 | h3
    · have := heap_lt ho; omega
    · exact h3 o ((h1.same i (heap_lt ho) hm).trans ho)
theorem StepR.same {B : Nat} {w0 W W' : World} (h : StepR B w0 W) (hs : Step [] W W') : StepR B w0 W' := h.push hs (by simp)
theorem StepR.low {B : Nat} {w w0 W : World} (h : StepR B w0 W) (h0 : Step [] w w0) (hB : w.heap.size ≤ B) : Step [] w W := by
  obtain ⟨S, h1, h2⟩ := h
  exact h0.trans' h1 (fun i hi _ => hi) (fun i hi hl => by have := (h2 i hi).1; omega)
section
variable {B : Nat} {W W' : World} {br F : Nat} {sv : Value} {K : Ents} {f : Kept7}
theorem RefM.tyO (h : RefM B W br F sv K f) : ∀ o, W.heap[br]? = some o → RefTy o := fun o ho => by rw [h.o] at ho; cases ho; exact ⟨_, _, _, rfl, .inl rfl⟩
theorem RefM.tyR (h : RefM B W br F sv K f) {g : Nat} (hg : sv.ownBlock = some g) : ∀ o, W.heap[g]? = some o → RefTy o := by
  intro o ho
  rcases h.row.2 with ⟨h1, _⟩ | ⟨g', cap, cur, h1, _, hg', _⟩
  · rw [h1] at hg; cases hg
  · rw [h1] at hg; cases hg; rw [hg'] at ho; cases ho; exact ⟨_, _, _, rfl, .inr rfl⟩
theorem RefM.size (h : RefM B W br F sv K f) : br < W.heap.size := heap_lt h.o
theorem RefM.neR (h : RefM B W br F sv K f) {g : Nat} (hg : sv.ownBlock = some g) : br ≠ g := by
  intro e
  rcases h.row.2 with ⟨h1, _⟩ | ⟨g', cap, cur, h1, _, hg', _⟩
  · rw [h1] at hg; cases hg
  · rw [h1] at hg; cases hg
    have e2 : br = g' := e
    rw [← e2, h.o] at hg'; cases hg'
/-- Payloads stay where blocks of other kinds turn. -/
theorem payloads_stay {M : Ents} {f : Kept7} {S : List Nat} (h : RepK (PayAt B W) M f) (hs : Step S W W') (hS : ∀ i ∈ S, ∀ cur, W.heap[i]? ≠ some (.cells cur 5 (0, 0))) : RepK (PayAt B W') M f :=
  ⟨h.nd, fun k x hx => by obtain ⟨p, h1, h2⟩ := h.to k x hx; exact ⟨p, h1, h2.1.apart hs hS, h2.2⟩, h.fro⟩
end
theorem refTy_not5 {W : World} {i : Nat} (h : ∀ o, W.heap[i]? = some o → RefTy o) : ∀ cur, W.heap[i]? ≠ some (.cells cur 5 (0, 0)) := fun cur hc => by
  obtain ⟨c, e, fr, h1, h2⟩ := h _ hc
  injection h1 with q1 q2 q3
  subst q2
  rcases h2 with h | h <;> cases h
end Go.Proofs.Ytbainekfbonbjaa
