/- IntakeTakes: a byte of one's own is turned; how many bytes are held. No statement is proved here; nothing is assumed. -/
import Derived.Test.YtbainekfbonbjaaTakK
namespace Go.Proofs.Ytbainekfbonbjaa
open Go.RowKit Go.Shelf
set_option linter.unusedVariables false
set_option linter.unusedSimpArgs false

theorem sumK_le {f : Kept7} : ∀ (ks : List Nat), (∀ k ∈ ks, ((f k).getD []).length ≤ 256) → sumK f ks ≤ 256 * ks.length
  | [], _ => by simp [sumK]
  | k :: t, h => by
    have ih := sumK_le t (fun x hx => h x (List.mem_cons_of_mem _ hx))
    have h0 := h k (by simp)
    have e : sumK f (k :: t) = ((f k).getD []).length + sumK f t := by simp [sumK]
    rw [e, List.length_cons]
    omega
theorem rep_small {B : Nat} {W : World} {M : Ents} {f : Kept7} (h : RepK (PayAt B W) M f) : sumK f (M.map Prod.fst) ≤ 256 * M.length := by
  have := sumK_le (f := f) (M.map Prod.fst) (fun k hk => by
    obtain ⟨⟨k', x⟩, hx, rfl⟩ := List.mem_map.1 hk
    obtain ⟨p, hp, hq⟩ := h.to k' x hx
    rw [hp]
    exact hq.2.1)
  rwa [List.length_map] at this
section
variable {B go bi bm br F : Nat} {W W' : World} {sv : Value} {M K : Ents} {f : Kept7} {cur : Array Value}
theorem IntM.poke (h : IntM B W bi bm F M f) (hs : Step [go] W W') (hg : W.heap[go]? = some (.cells cur 5 (0, 0))) (hp : ∀ q ∈ M, q.2.ownBlock ≠ some go) : IntM B W' bi bm F M f := by
  refine h.keepG hs (fun hm => ?_) (fun hm => ?_) (fun q hq g hgq hm => ?_)
  · simp at hm
    have ho : W.heap[bi]? = some (intObj F (some bm)) := h.o
    rw [hm, hg] at ho; cases ho
  · simp at hm
    obtain ⟨es, c, hb⟩ := h.m.block
    rw [hm, hg] at hb; cases hb
  · simp at hm
    subst hm
    exact hp q hq hgq
theorem RefM.poke (h : RefM B W br F sv K f) (hs : Step [go] W W') (hg : W.heap[go]? = some (.cells cur 5 (0, 0))) (hp : ∀ q ∈ K, q.2.ownBlock ≠ some go) : RefM B W' br F sv K f := by
  refine ⟨obj_step h.o hs (fun hm => ?_), h.lo, row_step h.row hs (fun g hgq hm => ?_), ⟨h.r.nd, fun k x hx => ?_, h.r.fro⟩⟩
  · simp at hm
    have ho := h.o
    rw [hm, hg] at ho; cases ho
  · simp at hm
    rw [hm] at hgq
    obtain ⟨c, e, fr, h1, h2⟩ := h.tyR hgq _ hg
    injection h1 with q1 q2 q3
    subst q2
    rcases h2 with h | h <;> cases h
  · obtain ⟨q, h1, h2⟩ := h.r.to k x hx
    exact ⟨q, h1, h2.1.step hs (fun g hgq hm => by simp at hm; rw [hm] at hgq; exact hp _ hx hgq), h2.2⟩
theorem Pays.poke {vals : List Value} {L : List (List Nat)} (h : Pays B W vals L) (hs : Step [go] W W') (hp : ∀ u ∈ vals, u.ownBlock ≠ some go) : Pays B W' vals L :=
  ⟨h.1, fun j u p hu hq => by
    have h2 := h.2 j u p hu hq
    exact ⟨h2.1.step hs (fun g hgq hm => by simp at hm; rw [hm] at hgq; exact hp u (List.mem_of_getElem? hu) hgq), h2.2⟩⟩
end
/-- What was older than own, or is newer than the call, is not own's. -/
theorem old_not {M : Ents} {n go : Nat} {u : Value} (h : Old M n u) (hn : go < n) (hM : ∀ q ∈ M, q.2.ownBlock ≠ some go) : u.ownBlock ≠ some go := fun e => by
  rcases h with ⟨k, hk⟩ | h
  · exact hM _ hk e
  · have := h go e; omega
end Go.Proofs.Ytbainekfbonbjaa
