/- IntakeTakes: the reference's Take, where it takes: its round. No statement is proved here; nothing is assumed. -/
import Derived.Test.YtbainekfbonbjaaTakD
namespace Go.Proofs.Ytbainekfbonbjaa
open Go.RowKit Go.Shelf Go.Maps
set_option linter.unusedVariables false
set_option linter.unusedSimpArgs false
attribute [local go_sem] Oper.semAt_some

theorem behind7_succ (F : Nat) (f : Kept7) (j : Nat) : behind7 F f (j + 1) = setK (behind7 F f j) (F + j) none := by
  first | rfl | (funext k; rw [behind7_at]; unfold setK; rw [behind7_at]; split <;> split <;> first | rfl | (split <;> first | rfl | omega) | omega)
section
variable {B : Nat} {W W1 W2 W3 : World} {br F g r k kl l cap : Nat} {v vl : Value} {K : Ents} {f : Kept7}
/-- One is written over by the last one. -/
theorem RefM.over {n : Nat} (h : RefM B W br F (.slice (some ⟨g, 0, none⟩) n cap) K f) (hl : K.length = n) (hr : r < K.length) :
    ((W.setCell ⟨g, r * 2, none⟩ (.int .u32 (kl : Int))).setCell ⟨g, r * 2 + 1, none⟩ vl).ownsRow B 148 2 (.slice (some ⟨g, 0, none⟩) n cap) n (flat (K.set r (kl, vl))) ∧
    Step [g] W ((W.setCell ⟨g, r * 2, none⟩ (.int .u32 (kl : Int))).setCell ⟨g, r * 2 + 1, none⟩ vl) := by
  have h0 := h.row
  rw [hl] at h0
  obtain ⟨h1, s1⟩ := row_set (i := r * 2) (x := .int .u32 (kl : Int)) h0 (by rw [flat_len]; omega) rfl
  obtain ⟨h2, s2⟩ := row_set (i := r * 2 + 1) (x := vl) h1 (by rw [List.length_set, flat_len]; omega) rfl
  rw [flat_set K r kl vl hr]
  exact ⟨h2, s1.trans s2⟩
/-- The last one is left out, and the floor is raised. -/
theorem RefM.strike {n : Nat} (hnl : n = l + 1) (h : RefM B W br F (.slice (some ⟨g, 0, none⟩) n cap) K f) (hl : K.length = n) (hr : K[r]? = some (k, v)) (hz : K[l]? = some (kl, vl))
    (h1 : W1.ownsRow B 148 2 (.slice (some ⟨g, 0, none⟩) n cap) n (flat (K.set r (kl, vl)))) (s1 : Step [g] W W1) (s2 : Step [] W1 W2) (s3 : Step [] (W2.setCell ⟨br, 1, none⟩ (.slice (some ⟨g, 0, none⟩) l cap)) W3) :
    RefM B (W3.setCell ⟨br, 0, none⟩ (.int .u32 ((F + 1 : Nat) : Int))) br (F + 1) (.slice (some ⟨g, 0, none⟩) l cap) ((K.set r (kl, vl)).dropLast) (setK f k none) ∧
    Step [g, br] W (W3.setCell ⟨br, 0, none⟩ (.int .u32 ((F + 1 : Nat) : Int))) := by
  subst hnl
  have hne : br ≠ g := h.neR rfl
  have hrl := (List.getElem?_eq_some_iff.1 hr).1
  have o1 := obj_step h.o s1 (by simp; exact hne)
  have o2 := obj_step o1 s2 (by simp)
  have s2' : Step [br] W2 (W2.setCell ⟨br, 1, none⟩ (.slice (some ⟨g, 0, none⟩) l cap)) := Step.setObj o2 rfl (by simp) _ _
  have o3 := obj_step (setCell_obj o2 1 (.slice (some ⟨g, 0, none⟩) l cap)) s3 (by simp)
  have s4 : Step [br] W3 (W3.setCell ⟨br, 0, none⟩ (.int .u32 ((F + 1 : Nat) : Int))) := Step.setObj o3 rfl (by simp) _ _
  have o4 := setCell_obj o3 0 (.int .u32 ((F + 1 : Nat) : Int))
  have sA : Step [br] W1 (W3.setCell ⟨br, 0, none⟩ (.int .u32 ((F + 1 : Nat) : Int))) := ((s2.nil_mono.trans s2').trans s3.nil_mono).trans s4
  have sB : Step [g, br] W (W3.setCell ⟨br, 0, none⟩ (.int .u32 ((F + 1 : Nat) : Int))) :=
    (s1.mono (fun i hi _ => by simp at hi ⊢; exact .inl hi)).trans (sA.mono (fun i hi _ => by simp at hi ⊢; exact .inr hi))
  have hd : ((K.set r (kl, vl)).dropLast).length = l := by simp; omega
  refine ⟨⟨o4, h.lo, ?_, ?_⟩, sB⟩
  · rw [hd]
    exact row_step (row_shrink h1 (by rw [List.length_set]; exact hl)) sA (by
      intro i hi
      first | (simp [Value.ownBlock] at hi; subst hi; simp; exact fun e => hne e.symm) | (simp; exact fun e => hne e.symm))
  · have hrep := payloads_stay h.r sB (fun i hi cur hc => by
      simp at hi
      rcases hi with rfl | rfl
      · exact refTy_not5 (h.tyR rfl) cur hc
      · exact refTy_not5 h.tyO cur hc)
    exact (hrep.erase hr).perm (swapdel_perm K r (kl, vl) hrl (by rw [hl]; simpa using hz))
/-- One more. -/
theorem RefM.push {sv sv' : Value} {n : Nat} {p : List Nat} (h : RefM B W br F sv K f) (hf : f n = none) (hp : PayAt B W v p) (hs : Step sv.ownBlock.toList W W1) (hrow : W1.ownsRow B 148 2 sv' (K.length + 1) (flat K ++ [.int .u32 (n : Int), v])) :
    RefM B (W1.setCell ⟨br, 1, none⟩ sv') br F sv' (K ++ [(n, v)]) (setK f n (some p)) ∧ Step (br :: sv.ownBlock.toList) W (W1.setCell ⟨br, 1, none⟩ sv') := by
  have hbr : br ∉ sv.ownBlock.toList := fun hm => by
    cases e : sv.ownBlock with
    | none => rw [e] at hm; simp at hm
    | some g => rw [e] at hm; simp at hm; exact h.neR e hm
  have o1 := obj_step h.o hs hbr
  have s2 : Step [br] W1 (W1.setCell ⟨br, 1, none⟩ sv') := Step.setObj o1 rfl (by simp) _ _
  have sB : Step (br :: sv.ownBlock.toList) W (W1.setCell ⟨br, 1, none⟩ sv') := (hs.mono (fun i hi _ => List.mem_cons_of_mem _ hi)).trans (s2.mono (fun i hi _ => by simp at hi ⊢; exact .inl hi))
  have hty : ∀ i ∈ br :: sv.ownBlock.toList, ∀ o, W.heap[i]? = some o → RefTy o := fun i hi => by
    rcases List.mem_cons.1 hi with rfl | hi
    · exact h.tyO
    · exact h.tyR (by simpa using hi)
  have hstay : ∀ {x : Value} {q : List Nat}, PayAt B W x q → PayAt B (W1.setCell ⟨br, 1, none⟩ sv') x q := fun {x q} hx => ⟨hx.1.step sB (fun g hg hm => by
    obtain ⟨cur, hc⟩ := hx.block hg
    exact refTy_not5 (hty g hm) cur hc), hx.2⟩
  refine ⟨⟨setCell_obj o1 1 sv', h.lo, ?_, ?_⟩, sB⟩
  · rw [flat_append, List.length_append]
    refine row_step hrow s2 fun g hg hm => ?_
    simp at hm
    rcases hrow.2 with ⟨h1, _⟩ | ⟨g', cap', cur, h1, _, hg', _⟩
    · rw [h1] at hg; cases hg
    · rw [h1] at hg; cases hg
      rw [show g' = br from hm] at hg'
      rw [o1] at hg'; cases hg'
  · have hno : ∀ x, (n, x) ∉ K := fun x hx => by obtain ⟨q, hq, _⟩ := h.r.to n x hx; rw [hf] at hq; cases hq
    refine ⟨?_, fun k x hx => ?_, fun k q hq => ?_⟩
    · rw [List.map_append, List.nodup_append]
      refine ⟨h.r.nd, by simp, fun a ha b hb => ?_⟩
      simp at hb
      subst hb
      rintro rfl
      obtain ⟨⟨a, x⟩, hx, rfl⟩ := List.mem_map.1 ha
      exact hno x hx
    · rcases List.mem_append.1 hx with hx | hx
      · obtain ⟨q, h1, h2⟩ := h.r.to k x hx
        have hk : k ≠ n := fun e => hno x (e ▸ hx)
        exact ⟨q, by rw [setK_other _ _ hk]; exact h1, hstay h2⟩
      · simp at hx
        obtain ⟨rfl, rfl⟩ := hx
        exact ⟨p, setK_same _ _ _, hstay hp⟩
    · by_cases e : k = n
      · subst e; exact ⟨v, by simp⟩
      · rw [setK_other _ _ e] at hq
        obtain ⟨x, hx⟩ := h.r.fro k q hq
        exact ⟨x, List.mem_append_left _ hx⟩
/-- Where blocks of payload slices turn. -/
theorem RefM.keepT {sv : Value} {S : List Nat} (h : RefM B W br F sv K f) (hs : Step S W W1) (hS : ∀ i ∈ S, ∃ cur, W.heap[i]? = some (.cells cur 71 (0, 0))) : RefM B W1 br F sv K f := by
  refine ⟨obj_step h.o hs (fun hm => ?_), h.lo, row_step h.row hs (fun g hg hm => ?_), ⟨h.r.nd, fun k x hx => ?_, h.r.fro⟩⟩
  · obtain ⟨cur, hc⟩ := hS _ hm
    rw [h.o] at hc; cases hc
  · obtain ⟨cur, hc⟩ := hS _ hm
    rcases h.row.2 with ⟨h1, _⟩ | ⟨g', cap', cur', h1, _, hg', _⟩
    · rw [h1] at hg; cases hg
    · rw [h1] at hg; cases hg
      rw [hg'] at hc; cases hc
  · obtain ⟨q, h1, h2⟩ := h.r.to k x hx
    exact ⟨q, h1, h2.1.step hs (fun g hg hm => by
      obtain ⟨cur, hc⟩ := hS _ hm
      obtain ⟨cur', hc'⟩ := h2.block hg
      rw [hc] at hc'; cases hc'), h2.2⟩
end
end Go.Proofs.Ytbainekfbonbjaa
