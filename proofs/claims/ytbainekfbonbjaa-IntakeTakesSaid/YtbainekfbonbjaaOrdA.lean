/- IntakeOrder: what its rounds go along with; Take in all cases. No statement is proved here; nothing is assumed. -/
import Derived.Test.YtbainekfbonbjaaIntO
import Derived.Test.YtbainekfbonbjaaRound
namespace Go.Proofs.Ytbainekfbonbjaa
open Go.RowKit Go.Shelf Go.Maps
set_option linter.unusedVariables false
set_option linter.unusedSimpArgs false

theorem OwnAt.apart {B : Nat} {W W' : World} {e : TypeId} {v : Value} {vals : List Value} {S : List Nat} (h : OwnAt B W e v vals) (hs : Step S W W') (hS : ∀ i ∈ S, ∀ cur, W.heap[i]? ≠ some (.cells cur e (0, 0))) : OwnAt B W' e v vals :=
  h.step hs (fun g hg hm => by obtain ⟨_, _, cur, hc⟩ := h.block hg; exact hS g hm cur hc)
theorem Pays.apart {B : Nat} {W W' : World} {vals : List Value} {L : List (List Nat)} {S : List Nat} (h : Pays B W vals L) (hs : Step S W W') (hS : ∀ i ∈ S, ∀ cur, W.heap[i]? ≠ some (.cells cur 5 (0, 0))) : Pays B W' vals L :=
  ⟨h.1, fun j u p hu hp => ⟨(h.2 j u p hu hp).1.apart hs hS, (h.2 j u p hu hp).2⟩⟩
theorem Pays.same {B : Nat} {W W' : World} {vals : List Value} {L : List (List Nat)} (h : Pays B W vals L) (hs : Step [] W W') : Pays B W' vals L := h.apart hs (by simp)
/-- The payloads of the numbers from F on. -/
def Own7 (F : Nat) (L : List (List Nat)) : Prop := ∀ (j : Nat) p, L[j]? = some p → p = payN (F + j)

section
variable {w W W' : World} {bi bm bt F : Nat} {M : Ents} {f : Kept7} {P : Nat → Prop}
theorem take14 (n : Nat) (hn : n < 40) (q : Option Addr) (len cap : Nat) (p : List Nat) (hlen : len = p.length) (hl : p.length ≤ 256) (h : TolS 40 w bi bm bt F M f P W) (hr : Reads W (.slice q len cap) (u8s p)) (hp : ¬ P n → p = payN n) :
    Calls Try.prog 62 #[.pointer (some ⟨bi, 0, none⟩), .int .u32 (n : Int), .slice q len cap] W fun e W' => ∃ (ov : Value) (vals : List Value) (fate F' : Nat) (M' : Ents) (f' : Kept7) (L : List (List Nat)), e = .returned (.tuple #[ov, .int .i64 (fate : Int), .int .i64 0]) ∧ OwnAt W.heap.size W' 71 ov vals ∧
      IntM w.heap.size W' bi bm F' M' f' ∧ Law7 40 F' f' ∧ Step [bi, bm] W W' ∧ Pays w.heap.size W' vals L ∧ F' = F + L.length ∧ Own7 F L ∧
      ((fate = 1 ∧ ¬ P n ∧ n < F + 16 ∧ (∀ j, (j < F' ∨ (f' j).isSome = true) ↔ (j = n ∨ P j))) ∨
       ((fate = 2 ∨ fate = 3) ∧ (P n ∨ F + 16 ≤ n) ∧ vals = [] ∧ F' = F ∧ M' = M ∧ f' = f ∧ W' = W)) := by
  by_cases hP : P n
  · have hb := h.bound (by omega)
    refine (take_again w.heap.size bi bm F M f q len cap n W h.i (by omega) (by omega) (by omega) ((h.p n).1 hP)).mono ?_
    rintro e W' ⟨rfl, rfl⟩
    exact ⟨_, [], 2, F, M, f, [], rfl, ownAt_nil _ _ _, h.i, h.l, Step.refl _ _, ⟨rfl, by simp⟩, by simp, fun j p h => by simp at h, .inr ⟨.inl rfl, .inl hP, rfl, rfl, rfl, rfl, rfl⟩⟩
  · obtain rfl := hp hP
    refine (take13 (by omega) n hn q len cap hlen h hr).mono ?_
    rintro e W' ⟨ov, vals, fate, F', M', f', he, g1, g2, g3, g4, g5⟩
    rcases g5 with ⟨a1, a2, a3, a4, L, a5, a6, a7⟩ | ⟨a1, a2, a3, a4, a5, a6, a7, a8⟩
    · exact ⟨ov, vals, fate, F', M', f', L, he, g1, g2, g3, g4, a5, a6, a7, .inl ⟨a1, a2, a3, a4⟩⟩
    · exact ⟨ov, vals, fate, F', M', f', [], he, g1, g2, g3, g4, by rw [a4]; exact ⟨rfl, by simp⟩, by rw [a5]; simp, fun j p h => by simp at h, .inr ⟨a1, a2, a4, a5, a6, a7, a8⟩⟩
end
theorem told13_short {lim F : Nat} {f : Kept7} (h : Law7 lim F f) (hl : lim < 1000) : (told13 F f).length ≤ 15 := by
  have hp : (told13 F f).Perm ((List.range' (F + 1) 15).filter fun k => (f k).isSome) := perm_nodup (told13_nodup F f) (((range'_lt (F + 1) 15).imp (fun h => Nat.ne_of_lt h)).filter _) fun k => by
    rw [told13_mem h hl, List.mem_filter, List.mem_range'_1]
    constructor
    · intro hk
      obtain ⟨p, hp⟩ := Option.isSome_iff_exists.1 hk
      have := h.own k p hp
      exact ⟨by omega, hk⟩
    · exact fun h => h.2
  rw [hp.length_eq]
  have := List.length_filter_le (fun k => (f k).isSome) (List.range' (F + 1) 15)
  simpa using this
/-- An intake, what it took, and the variables that the function 'on' has captured; nx: what comes next. -/
structure OrdS (w : World) (b3 b4 b5 bi bm bt F nx : Nat) (M : Ents) (f : Kept7) (P : Nat → Prop) (W : World) : Prop where
  t : TolS 40 w bi bm bt F M f P W
  c3 : Boxed W b3 98 (.pointer (some ⟨bi, 0, none⟩))
  c4 : Boxed W b4 22 (.int .u32 (nx : Int))
  c5 : Boxed W b5 121 (.map (some bt))
  l4 : w.heap.size ≤ b4
section
variable {w W W' : World} {b3 b4 b5 bi bm bt F F' nx : Nat} {M M' : Ents} {f f' : Kept7} {P P' : Nat → Prop}
theorem OrdS.same (h : OrdS w b3 b4 b5 bi bm bt F nx M f P W) (hs : Step [] W W') : OrdS w b3 b4 b5 bi bm bt F nx M f P W' := ⟨h.t.same hs, boxed_step h.c3 hs (by simp), boxed_step h.c4 hs (by simp), boxed_step h.c5 hs (by simp), h.l4⟩
theorem OrdS.calm {B : Nat} (h : OrdS w b3 b4 b5 bi bm bt F nx M f P W) (hc : Calm B W W') (hB : w.heap.size ≤ B) : OrdS w b3 b4 b5 bi bm bt F nx M f P W' := ⟨h.t.calm hc hB, boxed_calm h.c3 hc, boxed_calm h.c4 hc, boxed_calm h.c5 hc, h.l4⟩
theorem OrdS.step4 (h : OrdS w b3 b4 b5 bi bm bt F nx M f P W) (y : Nat) : OrdS w b3 b4 b5 bi bm bt F y M f P (W.setCell ⟨b4, 0, none⟩ (.int .u32 (y : Int))) ∧ Step [b4] W (W.setCell ⟨b4, 0, none⟩ (.int .u32 (y : Int))) ∧ ∀ i ∈ [b4], ∀ cur e, e ≠ 22 → W.heap[i]? ≠ some (.cells cur e (0, 0)) := by
  have hs : Step [b4] W (W.setCell ⟨b4, 0, none⟩ (.int .u32 (y : Int))) := Step.setObj h.c4 rfl (by simp) _ _
  have hne : ∀ i ∈ [b4], ∀ cur e, e ≠ 22 → W.heap[i]? ≠ some (.cells cur e (0, 0)) := fun i hi cur e he hc => by
    simp at hi; subst hi
    rw [show W.heap[i]? = _ from h.c4] at hc
    injection hc with hc
    injection hc with e1 e2 e3
    exact he e2.symm
  have n1 : bi ≠ b4 := fun e => by
    have h1 := h.t.i.o
    rw [e, IntObj, show W.heap[b4]? = _ from h.c4] at h1
    cases h1
  have n2 : bm ≠ b4 := fun e => by
    obtain ⟨es, c, h1⟩ := h.t.i.m.block
    rw [e, show W.heap[b4]? = _ from h.c4] at h1
    cases h1
  have n3 : bt ≠ b4 := fun e => by
    obtain ⟨es, c, h1⟩ := h.t.s.block
    rw [e, show W.heap[b4]? = _ from h.c4] at h1
    cases h1
  have n4 : b3 ≠ b4 := fun e => by
    have h1 := h.c3
    rw [e, Boxed, show W.heap[b4]? = _ from h.c4] at h1
    cases h1
  have n5 : b5 ≠ b4 := fun e => by
    have h1 := h.c5
    rw [e, Boxed, show W.heap[b4]? = _ from h.c4] at h1
    cases h1
  exact ⟨⟨h.t.beside hs (by simpa using n1) (by simpa using n2) (by simpa using n3) (fun i hi cur => hne i hi cur 5 (by decide)) (fun i hi => by simp at hi; have := h.l4; omega), boxed_step h.c3 hs (by simpa using n4), h.c4.set _, boxed_step h.c5 hs (by simpa using n5), h.l4⟩, hs, hne⟩
/-- The captured variables are none of the blocks that an intake or a set is made of. -/
theorem OrdS.blocks (h : OrdS w b3 b4 b5 bi bm bt F nx M f P W) : b3 ∉ [bi, bm, bt] ∧ b4 ∉ [bi, bm, bt] ∧ b5 ∉ [bi, bm, bt] := by
  obtain ⟨es, c, hm⟩ := h.t.i.m.block
  obtain ⟨es', c', ht⟩ := h.t.s.block
  have ho := h.t.i.o
  have aux : ∀ b ty v, ty ≠ 101 → Boxed W b ty v → b ∉ [bi, bm, bt] := fun b ty v hty hb hmem => by
    simp at hmem
    rcases hmem with rfl | rfl | rfl
    · rw [Boxed, show W.heap[b]? = _ from ho] at hb
      injection hb with hb
      injection hb with e1 e2 e3
      exact hty e2.symm
    · rw [Boxed, hm] at hb; cases hb
    · rw [Boxed, ht] at hb; cases hb
  exact ⟨aux _ _ _ (by decide) h.c3, aux _ _ _ (by decide) h.c4, aux _ _ _ (by decide) h.c5⟩
/-- The intake and the set have turned; the captured variables stay. -/
theorem OrdS.turn {S : List Nat} (h : OrdS w b3 b4 b5 bi bm bt F nx M f P W) (hs : Step S W W') (hS : ∀ i ∈ S, i ∈ [bi, bm, bt]) (ht : TolS 40 w bi bm bt F' M' f' P' W') : OrdS w b3 b4 b5 bi bm bt F' nx M' f' P' W' :=
  ⟨ht, boxed_step h.c3 hs (fun hm => h.blocks.1 (hS _ hm)), boxed_step h.c4 hs (fun hm => h.blocks.2.1 (hS _ hm)), boxed_step h.c5 hs (fun hm => h.blocks.2.2 (hS _ hm)), h.l4⟩
end
/-- What the set says of a number. -/
def seenV (b : Bool) : Int := if b then 1 else 0
theorem seen_look {W : World} {b : Nat} {P : Nat → Prop} (h : MapS W b P) {k : Nat} (hk : k < 4294967296) (s : Bool) (hs : s = true ↔ P k) : (Instr.lookup 121 (.map (some b)) (.int .u32 (k : Int)) false).run Try.prog W = .ok (.int .i64 (seenV s)) W := by
  obtain ⟨M, h1, h2, h3⟩ := h
  cases s with
  | true => exact look_one h1 h2 hk ((h3 k).2 (hs.1 rfl))
  | false => exact look_zero h1 hk (fun hm => by have := hs.2 ((h3 k).1 hm); cases this)
end Go.Proofs.Ytbainekfbonbjaa
