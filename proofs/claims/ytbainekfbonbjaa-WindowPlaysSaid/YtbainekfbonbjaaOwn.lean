/- A slice of one-cell elements that lies anywhere in a block of its own: what it holds, how it goes along, one more element. No statement is proved here; nothing is assumed. -/
import Derived.Test.YtbainekfbonbjaaBaseB
import Derived.Test.YtbainekfbonbjaaRows
import Derived.OwnWalkIn
import Derived.TacticsInMore
import Derived.LoopNIn
import Derived.LoopIn
import Derived.Deep.QuietTactic
import Derived.BigQuiet
import Derived.Maps.OwnIn
import Derived.ArgAppend
namespace Go.Proofs.Ytbainekfbonbjaa
open Go.RowKit Go.Shelf
set_option linter.unusedVariables false

theorem cells_cell {W : World} {b i : Nat} {c : Array Value} {t : TypeId} {f : Nat × Nat} {v : Value} (h : W.heap[b]? = some (.cells c t f)) (hv : c[i]? = some v) : W.cell? ⟨b, i, none⟩ = some v := by simp [World.cell?, h, hv]
theorem cells_frozen {W : World} {b i : Nat} {c : Array Value} {t : TypeId} (h : W.heap[b]? = some (.cells c t (0, 0))) : W.frozen? ⟨b, i, none⟩ = false := by simp [World.frozen?, h]
theorem setCell_obj {W : World} {b : Nat} {c : Array Value} {t : TypeId} {f : Nat × Nat} (h : W.heap[b]? = some (.cells c t f)) (i : Nat) (v : Value) : (W.setCell ⟨b, i, none⟩ v).heap[b]? = some (.cells (c.setIfInBounds i v) t f) := by
  obtain ⟨hlt, hk⟩ := Array.getElem?_eq_some_iff.1 h
  show (W.heap.modify b _)[b]? = _
  rw [Array.getElem?_eq_getElem (by rw [Array.size_modify]; exact hlt), Array.getElem_modify_self, hk]
  rfl

theorem Step.setObj {S : List Nat} {W : World} {b : Nat} {c : Array Value} {t : TypeId} {f : Nat × Nat} (h : W.heap[b]? = some (.cells c t f)) (ht : heldType t = false) (hS : b ∈ S) (i : Nat) (v : Value) : Step S W (W.setCell ⟨b, i, none⟩ v) :=
  Step.setCell W _ v (.inl hS) (fun o ho => by rw [h] at ho; cases ho; exact ht)


/-- v bears vals: nil, or a stretch of a block at or behind B. -/
def OwnAt (B : Nat) (W : World) (e : TypeId) (v : Value) (vals : List Value) : Prop :=
  (v = .slice none 0 0 ∧ vals = []) ∨ ∃ g off cap cur, v = .slice (some ⟨g, off, none⟩) vals.length cap ∧ B ≤ g ∧ W.heap[g]? = some (.cells cur e (0, 0)) ∧ vals.length ≤ cap ∧ cap ≤ maxLen ∧ off + cap ≤ cur.size ∧ ∀ j, j < vals.length → cur[off + j]? = vals[j]?

theorem ownAt_nil (B : Nat) (W : World) (e : TypeId) : OwnAt B W e (.slice none 0 0) [] := .inl ⟨rfl, rfl⟩
theorem OwnAt.form {B : Nat} {W : World} {e : TypeId} {v : Value} {vals : List Value} (h : OwnAt B W e v vals) : ∃ q cap, v = .slice q vals.length cap ∧ vals.length ≤ cap ∧ cap ≤ maxLen := by
  rcases h with ⟨rfl, rfl⟩ | ⟨g, off, cap, cur, rfl, _, _, h, hm, _⟩
  · exact ⟨none, 0, rfl, Nat.le_refl _, by simp [maxLen]⟩
  · exact ⟨_, cap, rfl, h, hm⟩
theorem OwnAt.step {B : Nat} {W W' : World} {e : TypeId} {v : Value} {vals : List Value} {S : List Nat} (h : OwnAt B W e v vals) (hs : Step S W W') (hn : ∀ g, v.ownBlock = some g → g ∉ S) : OwnAt B W' e v vals := by
  rcases h with h | ⟨g, off, cap, cur, rfl, hb, hg, rest⟩
  · exact .inl h
  · exact .inr ⟨g, off, cap, cur, rfl, hb, obj_step hg hs (hn g rfl), rest⟩
theorem OwnAt.same {B : Nat} {W W' : World} {e : TypeId} {v : Value} {vals : List Value} (h : OwnAt B W e v vals) (hs : Step [] W W') : OwnAt B W' e v vals := h.step hs (fun _ _ h => by cases h)
theorem OwnAt.block {B : Nat} {W : World} {e : TypeId} {v : Value} {vals : List Value} (h : OwnAt B W e v vals) {g : Nat} (hg : v.ownBlock = some g) : B ≤ g ∧ g < W.heap.size ∧ ∃ cur, W.heap[g]? = some (.cells cur e (0, 0)) := by
  rcases h with ⟨rfl, _⟩ | ⟨g', off, cap, cur, rfl, hb, hg', _⟩
  · cases hg
  · cases hg; exact ⟨hb, heap_lt hg', cur, hg'⟩
/-- An element's cell. -/
theorem OwnAt.at {B : Nat} {W : World} {e : TypeId} {v : Value} {vals : List Value} (h : OwnAt B W e v vals) {j : Nat} {x : Value} (hx : vals[j]? = some x) :
    ∃ g off cap, v = .slice (some ⟨g, off, none⟩) vals.length cap ∧ vals.length ≤ cap ∧ cap ≤ maxLen ∧ W.cell? ⟨g, off + j, none⟩ = some x := by
  have hlt := (List.getElem?_eq_some_iff.1 hx).1
  rcases h with ⟨rfl, rfl⟩ | ⟨g, off, cap, cur, rfl, hb, hg, h1, h2, h3, h4⟩
  · simp at hx
  · exact ⟨g, off, cap, rfl, h1, h2, cells_cell hg ((h4 j hlt).trans hx)⟩
/-- Without the first. -/
theorem OwnAt.rest {B : Nat} {W : World} {e : TypeId} {x : Value} {vals : List Value} {g off n cap : Nat} (h : OwnAt B W e (.slice (some ⟨g, off, none⟩) n cap) (x :: vals)) : OwnAt B W e (.slice (some ⟨g, off + 1, none⟩) vals.length (cap - 1)) vals := by
  rcases h with ⟨h, _⟩ | ⟨g', off', cap', cur, hv, hb, hg, h1, h2, h3, h4⟩
  · cases h
  · cases hv
    simp only [List.length_cons] at h1 h4
    refine .inr ⟨g, off + 1, cap - 1, cur, rfl, hb, hg, by omega, by omega, by omega, fun j hj => ?_⟩
    have := h4 (j + 1) (by omega)
    rw [show off + 1 + j = off + (j + 1) by omega, this]
    simp

theorem OwnAt.ofRow {B : Nat} {W : World} {e : TypeId} {v : Value} {n : Nat} {vals : List Value} (h : W.ownsRow B e 1 v n vals) : OwnAt B W e v vals := by
  obtain ⟨hl, ⟨rfl, rfl⟩ | ⟨g, cap, cur, rfl, hb, hg, h1, h2, h3, h4⟩⟩ := h
  · left; exact ⟨rfl, List.eq_nil_of_length_eq_zero (by simpa using hl)⟩
  · have hl' : vals.length = n := by omega
    refine .inr ⟨g, 0, cap, cur, by rw [hl'], hb, hg, by omega, h2, by omega, fun j hj => ?_⟩
    rw [← h4, Nat.zero_add, List.getElem?_take]
    rw [if_pos (by omega)]
    simp

variable {P : Program}
/-- ONE MORE ELEMENT, wherever the slice lies. -/
theorem wpList_push (w : World) {ops : Array Oper} {rest : List Oper} {o : Oper} {a : Act} {Q : Exit → Act → World → Prop} (hgd : o.guard = none) (s x : Operand) (t : TypeId)
    (hop : o.op = Op.call { callee := Callee.builtin Builtin.append, args := #[s, x], argTypes := #[t, t] })
    (e : TypeId) (i : TypeInfo) (z : Value) (bytes : Nat) (h1 : P.underlying t = some (.slice e)) (h2 : P.info? e = some i) (h3 : i.zero = some z) (h4 : i.size = 1) (h5 : i.bytes = bytes) (h6 : z.cells.size = 1)
    (B : Nat) (v : Value) (vals : List Value) (hs : a.eval s = v) (hown : OwnAt B w e v vals) (he : heldType e = false) (ad : Addr) (c : Nat) (u : Value) (hx : a.eval x = .slice (some ad) 1 c) (hc : w.cell? ad = some u) (h1c : u.oneCell' = true)
    (hlen : vals.length < 1000000) (hbytes : bytes ≤ 1000) (hB : B ≤ w.heap.size)
    (hK : ∀ v' w', OwnAt B w' e v' (vals ++ [u]) → (∀ S, (∀ g, v.ownBlock = some g → g ∈ S) → Step S w w') → (∀ g, v'.ownBlock = some g → v.ownBlock = some g ∨ w.heap.size ≤ g) → wpList P ops Q rest (a.put o.dst v') w') :
    wpList P ops Q (o :: rest) a w := by
  have hb2 : (vals.length + 1) * bytes ≤ 140737488355328 := Nat.le_trans (Nat.mul_le_mul (show vals.length + 1 ≤ 1000000 by omega) hbytes) (by omega)
  have hcells : ∀ j u', [u][j]? = some u' → w.cell? (ad.add j) = some u' := by
    intro j u' hj
    cases j with
    | zero => simp at hj; subst hj; simpa [Addr.add] using hc
    | succ j => simp at hj
  have hgrow : ∀ v' w', w'.ownsRow w.heap.size e 1 v' (vals.length + 1) (vals ++ [u]) → w.grownBy w' none → wpList P ops Q rest (a.put o.dst v') w' := by
    intro v' w' ho hg
    refine hK v' w' ?_ (fun S _ => Step.grown hg (fun j hj => by cases hj)) (fun g hg' => .inr ((OwnAt.ofRow ho).block hg').1)
    rcases OwnAt.ofRow ho with h | ⟨g, off, cap, cur, hv, hb, rest⟩
    · exact .inl h
    · exact .inr ⟨g, off, cap, cur, hv, by omega, rest⟩
  rcases hown with ⟨rfl, rfl⟩ | ⟨g, off, cap, cur, rfl, hb, hg, hl1, hl2, hl3, hl4⟩
  · refine wpList_append_grows w hgd s x t hop e i z 1 bytes h1 h2 h3 h4 h5 h6 (by omega) none 0 0 [] hs (fun _ => ⟨rfl, rfl⟩) (by simp) (fun _ h => by cases h) ad 1 c [u] hx (by simp) hcells (by simpa using h1c) (by omega) (by simp [maxLen]) (by simpa using hb2) ?_
    intro v' w' ho hg
    exact hgrow v' w' (by simpa using ho) hg
  · refine wpList_append_arg w hgd s x t hop e i z 1 bytes h1 h2 h3 h4 h5 h6 (by omega) g off vals.length cap vals hs (by simp) ?_ ad 1 c [u] hx (by simp) hcells (by simpa using h1c) ?_ (by unfold maxLen; omega) hb2 ?_ ?_
    · intro j u' hj
      exact cells_cell hg ((hl4 j (List.getElem?_eq_some_iff.1 hj).1).trans hj)
    · intro hr j hj
      simp at hj
      subst hj
      obtain ⟨y, hy⟩ : ∃ y, cur[off + vals.length]? = some y := ⟨_, Array.getElem?_eq_getElem (by omega)⟩
      refine ⟨?_, cells_frozen hg⟩
      rw [show off + vals.length * 1 + 0 = off + vals.length by omega, cells_cell hg hy]
      rfl
    · intro hr
      rw [show off + vals.length * 1 = off + vals.length by omega]
      show wpList P ops Q rest _ (w.setCell ⟨g, off + vals.length, none⟩ u)
      have hset := setCell_obj hg (off + vals.length) u
      have := hK (.slice (some ⟨g, off, none⟩) (vals.length + 1) cap) (w.setCell ⟨g, off + vals.length, none⟩ u) (.inr ⟨g, off, cap, _, by simp, hb, hset, by simp; omega, hl2, by simp; omega, fun j hj => ?_⟩) (fun S hS => Step.setObj hg he (hS g rfl) _ _) (fun g' hg' => .inl hg')
      · exact this
      · simp only [List.length_append, List.length_cons, List.length_nil] at hj
        by_cases hjl : j < vals.length
        · rw [Array.getElem?_setIfInBounds_ne (by omega), hl4 j hjl, List.getElem?_append_left hjl]
        · obtain rfl : j = vals.length := by omega
          rw [Array.getElem?_setIfInBounds_self_of_lt (by omega)]
          simp
    · intro hr v' w' ho hg'
      exact hgrow v' w' ho hg'
end Go.Proofs.Ytbainekfbonbjaa
