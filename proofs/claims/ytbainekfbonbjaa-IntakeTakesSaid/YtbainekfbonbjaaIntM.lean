/- IntakeTold: what its rounds go along with; Take in all cases. No statement is proved here; nothing is assumed. -/
import Derived.Test.YtbainekfbonbjaaIntL
namespace Go.Proofs.Ytbainekfbonbjaa
open Go.RowKit Go.Shelf Go.Maps
set_option linter.unusedVariables false
set_option linter.unusedSimpArgs false

/-- The marks that the loops over functions have laid. -/
def Mks (B : Nat) (Ds : List Nat) (W : World) : Prop := (∀ D ∈ Ds, B ≤ D ∧ W.heap[D]? = some (.deferred (some []))) ∧ Ds.Nodup
theorem Mks.nil (B : Nat) (W : World) : Mks B [] W := ⟨by simp, by simp⟩
theorem Mks.book {B : Nat} {Ds : List Nat} {W W' : World} (h : Mks B Ds W) (hb : BookX [] W W') : Mks B Ds W' := ⟨fun D hD => ⟨(h.1 D hD).1, hb D _ (h.1 D hD).2 rfl (by simp)⟩, h.2⟩
theorem Mks.same {B : Nat} {Ds S : List Nat} {W W' : World} (h : Mks B Ds W) (hs : Step S W W') : Mks B Ds W' := h.book hs.book
theorem Mks.calm {B B' : Nat} {Ds : List Nat} {W W' : World} (h : Mks B Ds W) (hc : Calm B' W W') (hB : ∀ D ∈ Ds, D < B') : Mks B Ds W' := ⟨fun D hD => ⟨(h.1 D hD).1, hc.keep D _ (h.1 D hD).2 (.inr (hB D hD))⟩, h.2⟩
theorem Mks.cons {B D : Nat} {Ds : List Nat} {W : World} (h : Mks B Ds W) (hB : B ≤ D) (hd : W.heap[D]? = some (.deferred (some []))) (hn : D ∉ Ds) : Mks B (D :: Ds) W :=
  ⟨fun E hE => by rcases List.mem_cons.1 hE with rfl | hE; exact ⟨hB, hd⟩; exact h.1 E hE, List.nodup_cons.2 ⟨hn, h.2⟩⟩
theorem Mks.lt {B : Nat} {Ds : List Nat} {W : World} (h : Mks B Ds W) : ∀ D ∈ Ds, D < W.heap.size := fun D hD => heap_lt (h.1 D hD).2

/-- What an intake that has taken numbers below lim, each with its own payload, and the set of these. -/
structure TolS (lim : Nat) (w : World) (bi bm bt F : Nat) (M : Ents) (f : Kept7) (P : Nat → Prop) (W : World) : Prop where
  i : IntM w.heap.size W bi bm F M f
  l : Law7 lim F f
  s : MapS W bt P
  p : ∀ j, P j ↔ (j < F ∨ (f j).isSome = true)
  lo : w.heap.size ≤ bt
  ne : bt ≠ bm
  st : Step [] w W
section
variable {lim : Nat} {w W W' : World} {bi bm bt F : Nat} {M : Ents} {f : Kept7} {P : Nat → Prop}
theorem TolS.same (h : TolS lim w bi bm bt F M f P W) (hs : Step [] W W') : TolS lim w bi bm bt F M f P W' := ⟨h.i.same hs, h.l, h.s.keep hs (by simp), h.p, h.lo, h.ne, h.st.trans hs⟩
theorem TolS.calm {B : Nat} (h : TolS lim w bi bm bt F M f P W) (hc : Calm B W W') (hB : w.heap.size ≤ B) : TolS lim w bi bm bt F M f P W' := ⟨h.i.calm hc, h.l, h.s.calm hc, h.p, h.lo, h.ne, h.st.calm hc hB⟩
/-- A block that is none of the intake's, nor a payload's, nor the set's, turns. -/
theorem TolS.beside {S : List Nat} (h : TolS lim w bi bm bt F M f P W) (hs : Step S W W') (h1 : bi ∉ S) (h2 : bm ∉ S) (h3 : bt ∉ S) (h4 : ∀ i ∈ S, ∀ cur, W.heap[i]? ≠ some (.cells cur 5 (0, 0))) (hS : ∀ i ∈ S, w.heap.size ≤ i) : TolS lim w bi bm bt F M f P W' :=
  ⟨h.i.keepG hs h1 h2 (fun q hq g hg hm => by
    obtain ⟨p, _, hp⟩ := h.i.r.to q.1 q.2 hq
    obtain ⟨cur, hc⟩ := hp.block hg
    exact h4 g hm cur hc), h.l, h.s.keep hs h3, h.p, h.lo, h.ne, h.st.trans' hs (fun _ h _ => h) (fun i hi hlt => by have := hS i hi; omega)⟩
theorem TolS.bound (h : TolS lim w bi bm bt F M f P W) (hl : lim < 1000) : M.length ≤ 32 ∧ F < 1000 ∧ (∀ j, P j → j < lim) := by
  refine ⟨?_, by have := h.l.le; omega, fun j hj => ?_⟩
  · have := (keys_told h.l hl h.i).length_eq
    rw [List.length_map] at this
    have := told13_bound h.l hl
    omega
  · rcases (h.p j).1 hj with hj | hj
    · have := h.l.le; omega
    · obtain ⟨p, hp⟩ := Option.isSome_iff_exists.1 hj
      exact (h.l.own j p hp).2.2.2
theorem TolS.bytes (h : TolS lim w bi bm bt F M f P W) (hl : lim < 1000) : sumK f (M.map Prod.fst) = sumP (told13 F f) := by
  rw [sumK_perm (keys_told h.l hl h.i)]
  exact h.l.sum _ fun k hk => (told13_mem h.l hl k).1 hk
theorem TolS.waits (h : TolS lim w bi bm bt F M f P W) (hl : lim < 1000) : M.length = (told13 F f).length := by
  have := (keys_told h.l hl h.i).length_eq
  rwa [List.length_map] at this

/-- TAKE, in all cases, where the payload is the number's own. -/
theorem take13 (hl : lim < 256) (n : Nat) (hn : n < lim) (q : Option Addr) (len cap : Nat) (hlen : len = (payN n).length) (h : TolS lim w bi bm bt F M f P W) (hr : Reads W (.slice q len cap) (u8s (payN n))) :
    Calls Try.prog 62 #[.pointer (some ⟨bi, 0, none⟩), .int .u32 (n : Int), .slice q len cap] W fun e W' => ∃ (ov : Value) (vals : List Value) (fate F' : Nat) (M' : Ents) (f' : Kept7), e = .returned (.tuple #[ov, .int .i64 (fate : Int), .int .i64 0]) ∧ OwnAt W.heap.size W' 71 ov vals ∧
      IntM w.heap.size W' bi bm F' M' f' ∧ Law7 lim F' f' ∧ Step [bi, bm] W W' ∧
      ((fate = 1 ∧ ¬ P n ∧ n < F + 16 ∧ (∀ j, (j < F' ∨ (f' j).isSome = true) ↔ (j = n ∨ P j)) ∧ ∃ L, Pays w.heap.size W' vals L ∧ F' = F + L.length ∧ ∀ (j : Nat) p, L[j]? = some p → p = payN (F + j)) ∨
       ((fate = 2 ∨ fate = 3) ∧ (P n ∨ F + 16 ≤ n) ∧ ov = .slice none 0 0 ∧ vals = [] ∧ F' = F ∧ M' = M ∧ f' = f ∧ W' = W)) := by
  subst hlen
  have hb := h.bound (by omega)
  have hp := payN_len n
  by_cases hag : n < F ∨ (f n).isSome = true
  · refine (take_again w.heap.size bi bm F M f q _ cap n W h.i (by omega) (by omega) (by omega) hag).mono ?_
    rintro e W' ⟨rfl, rfl⟩
    exact ⟨_, [], 2, F, M, f, rfl, ownAt_nil _ _ _, h.i, h.l, Step.refl _ _, .inr ⟨.inl rfl, .inl ((h.p n).2 hag), rfl, rfl, rfl, rfl, rfl, rfl⟩⟩
  · have hF : F ≤ n := by omega
    have hf : f n = none := by
      cases e : f n with
      | none => rfl
      | some p => exact absurd (.inr (by rw [e]; rfl)) hag
    by_cases hfar : F + 16 ≤ n
    · refine (take_far w.heap.size bi bm F M f q _ cap n W h.i (by omega) (by omega) hfar hf).mono ?_
      rintro e W' ⟨rfl, rfl⟩
      exact ⟨_, [], 3, F, M, f, rfl, ownAt_nil _ _ _, h.i, h.l, Step.refl _ _, .inr ⟨.inr rfl, .inr hfar, rfl, rfl, rfl, rfl, rfl, rfl⟩⟩
    · refine (take_ok w.heap.size bi bm F M f q cap n (payN n) W h.i h.st.size (by omega) (payN_lt n (by omega)) hr (by omega) (by omega) (by omega) hF (by omega) hf).mono ?_
      rintro e W' ⟨v, vals, L, M', rfl, g1, g2, g3, g4, g5, g6, g7, g8⟩
      obtain ⟨k1, k2, k3⟩ := h.l.taken hF (by omega) hn g3
      refine ⟨v, vals, 1, _, M', _, rfl, g1, g4, k1, g8, .inl ⟨rfl, fun hP => hag ((h.p n).1 hP), by omega, fun j => (k2 j).trans ⟨?_, ?_⟩, L, g2, rfl, k3⟩⟩
      · rintro (e | e)
        · exact .inl e
        · exact .inr ((h.p j).2 e)
      · rintro (e | e)
        · exact .inl e
        · exact .inr ((h.p j).1 e)
end

theorem TolS.ne2 {lim : Nat} {w W : World} {bi bm bt F : Nat} {M : Ents} {f : Kept7} {P : Nat → Prop} (h : TolS lim w bi bm bt F M f P W) : bt ≠ bi := by
  intro e
  obtain ⟨es, c, hb⟩ := h.s.block
  rw [e, show W.heap[bi]? = _ from h.i.o] at hb
  cases hb
/-- Behind a number that was taken: it is put into the set. -/
theorem TolS.took {lim : Nat} {w W W' : World} {bi bm bt F F' n : Nat} {M M' : Ents} {f f' : Kept7} {P : Nat → Prop} (h : TolS lim w bi bm bt F M f P W) (hl : lim < 256) (hn : n < lim) (hs : Step [bi, bm] W W') (g2 : IntM w.heap.size W' bi bm F' M' f') (g3 : Law7 lim F' f') (hP : ∀ j, (j < F' ∨ (f' j).isSome = true) ↔ (j = n ∨ P j)) :
    ∃ W2, (Instr.mapUpdate 121 (.map (some bt)) (.int .u32 (n : Int)) (.int .i64 1)).run Try.prog W' = .ok () W2 ∧ TolS lim w bi bm bt F' M' f' (fun j => j = n ∨ P j) W2 ∧ Step [bt] W' W2 := by
  have hb := h.bound (by omega)
  have hs' : MapS W' bt P := h.s.keep hs (by simp; exact ⟨h.ne2, h.ne⟩)
  obtain ⟨W2, h1, h2, h3⟩ := hs'.put (t := 121) (e := 3) Try.underlying121 lim (by omega) hb.2.2 (k := n) (by omega)
  obtain ⟨es, c, hbt⟩ := hs'.block
  refine ⟨W2, h1, ⟨g2.keepG h3 (by simp; exact fun e => h.ne2 e.symm) (by simp; exact fun e => h.ne e.symm) (fun q hq g hg hm => ?_), g3, h2, fun j => (hP j).symm, h.lo, h.ne, (h.st.trans' hs (fun _ h _ => h) (fun i hi hlt => by have := h.i.lo; simp at hi; omega)).trans' h3 (fun _ h _ => h) (fun i hi hlt => by simp at hi; have := h.lo; omega)⟩, h3⟩
  obtain ⟨p, _, hp⟩ := g2.r.to q.1 q.2 hq
  obtain ⟨cur, hc⟩ := hp.block hg
  simp at hm
  subst hm
  rw [hbt] at hc; cases hc
set_option maxRecDepth 100000 in
def tolFrame (q : Option Addr) (N cap bi bt k : Nat) (U : Nat → Value) : Array Value := #[.slice q N cap, U 1, .bool false, .pointer (some ⟨bi, 0, none⟩), .map (some bt), U 5, U 6, U 7, U 8, U 9, U 10, U 11, U 12, U 13, U 14, U 15, U 16, U 17, U 18, U 19, U 20, U 21, .pointer (some ⟨bi, 0, none⟩), .map (some bt), .slice q N cap, .int .i64 (N : Int), .int .i64 (k : Int), U 27, U 28, U 29, U 30, U 31, U 32, U 33, U 34, U 35, U 36, U 37, U 38, U 39, U 40, U 41, U 42, U 43, U 44, U 45, U 46, U 47, U 48, U 49, U 50, U 51, U 52, U 53, U 54, U 55, U 56, U 57, U 58, U 59, U 60, U 61, U 62, U 63, U 64, U 65, U 66, U 67, U 68, U 69, U 70, U 71, U 72, U 73, U 74, U 75, U 76, U 77, U 78, U 79, U 80, U 81, U 82, U 83, U 84, U 85, U 86, U 87, U 88, U 89, U 90, U 91, U 92, U 93, U 94, U 95, U 96, U 97, U 98, U 99, U 100, U 101, U 102, U 103, U 104, U 105, U 106, U 107, U 108, U 109, U 110, U 111, U 112, U 113, U 114, U 115, U 116, U 117, U 118, U 119, U 120, U 121, U 122, U 123, U 124, U 125, U 126, U 127, U 128, U 129, U 130, U 131, U 132, U 133, U 134, U 135, U 136, U 137, U 138, U 139, U 140, U 141, U 142, U 143, U 144, U 145, U 146, U 147, U 148, U 149, U 150, U 151, U 152, U 153, U 154]
/-- The frame and the memory at the head of the loop. -/
def TolI (q : Option Addr) (N cap bi bm bt : Nat) (w : World) (a : Act) (W : World) : Prop :=
  ∃ (U : Nat → Value) (k : Nat) (Ds : List Nat) (F : Nat) (M : Ents) (f : Kept7) (P : Nat → Prop), (k ≤ N ∧ k ≤ 60) ∧ TolS 60 w bi bm bt F M f P W ∧ Mks w.heap.size Ds W ∧ a = { tmps := tolFrame q N cap bi bt k U, defers := Ds.map markAt }
theorem TolI.intro {q : Option Addr} {N cap bi bm bt : Nat} {w W : World} {tmps : Array Value} {defers : List Deferred} (k : Nat) (Ds : List Nat) {F : Nat} {M : Ents} {f : Kept7} {P : Nat → Prop} (h1 : k ≤ N ∧ k ≤ 60) (h2 : TolS 60 w bi bm bt F M f P W) (h3 : Mks w.heap.size Ds W)
    (ht : tmps = tolFrame q N cap bi bt k (fun i => tmps.getD i undef)) (hd : defers = Ds.map markAt) : TolI q N cap bi bm bt w { tmps := tmps, defers := defers } W :=
  ⟨fun i => tmps.getD i undef, k, Ds, F, M, f, P, h1, h2, h3, by rw [hd, ← ht]⟩
end Go.Proofs.Ytbainekfbonbjaa
