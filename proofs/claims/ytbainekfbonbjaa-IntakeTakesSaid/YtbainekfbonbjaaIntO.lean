/- IntakeTold: what the loops over what is told go along with. No statement is proved here; nothing is assumed. -/
import Derived.Test.YtbainekfbonbjaaIntM
namespace Go.Proofs.Ytbainekfbonbjaa
open Go.RowKit Go.Shelf Go.Maps
set_option linter.unusedVariables false
set_option linter.unusedSimpArgs false

/-- An intake and the set of what it took; and a set bx that is being filled, its variable behind it, then a sum. -/
structure Beh (lim : Nat) (w : World) (bi bm bt F : Nat) (M : Ents) (f : Kept7) (P : Nat → Prop) (Ds : List Nat) (bx : Nat) (Q : Nat → Prop) (sum : Nat) (W : World) : Prop where
  t : TolS lim w bi bm bt F M f P W
  m : Mks w.heap.size Ds W
  x : MapS W bx Q
  hv : Boxed W (bx + 1) 121 (.map (some bx))
  bs : Boxed W (bx + 1 + 1) 3 (.int .i64 (sum : Int))
  lo : w.heap.size ≤ bx
  n1 : bi < bx
  n2 : bm < bx
  n3 : bt < bx
section
variable {lim : Nat} {w W W' : World} {bi bm bt F : Nat} {M : Ents} {f : Kept7} {P : Nat → Prop} {Ds : List Nat} {bx : Nat} {Q Q' : Nat → Prop} {sum : Nat}
theorem Beh.same (h : Beh lim w bi bm bt F M f P Ds bx Q sum W) (hs : Step [] W W') : Beh lim w bi bm bt F M f P Ds bx Q sum W' :=
  ⟨h.t.same hs, h.m.same hs, h.x.keep hs (by simp), boxed_step h.hv hs (by simp), boxed_step h.bs hs (by simp), h.lo, h.n1, h.n2, h.n3⟩
theorem Beh.calm {B : Nat} (h : Beh lim w bi bm bt F M f P Ds bx Q sum W) (hc : Calm B W W') (hB : w.heap.size ≤ B) (hD : ∀ D ∈ Ds, D < B) : Beh lim w bi bm bt F M f P Ds bx Q sum W' :=
  ⟨h.t.calm hc hB, h.m.calm hc hD, h.x.calm hc, boxed_calm h.hv hc, boxed_calm h.bs hc, h.lo, h.n1, h.n2, h.n3⟩
theorem Beh.congr (h : Beh lim w bi bm bt F M f P Ds bx Q sum W) (hq : ∀ k, Q k ↔ Q' k) : Beh lim w bi bm bt F M f P Ds bx Q' sum W := ⟨h.t, h.m, h.x.congr hq, h.hv, h.bs, h.lo, h.n1, h.n2, h.n3⟩
theorem Beh.marks {D : Nat} (h : Beh lim w bi bm bt F M f P Ds bx Q sum W) (hB : w.heap.size ≤ D) (hd : W.heap[D]? = some (.deferred (some []))) (hn : D ∉ Ds) : Beh lim w bi bm bt F M f P (D :: Ds) bx Q sum W := ⟨h.t, h.m.cons hB hd hn, h.x, h.hv, h.bs, h.lo, h.n1, h.n2, h.n3⟩
theorem Beh.put (h : Beh lim w bi bm bt F M f P Ds bx Q sum W) (N : Nat) (hN : N < 1000) (hQ : ∀ k, Q k → k < N) {k : Nat} (hk : k < 4294967296) :
    ∃ W', (Instr.mapUpdate 121 (.map (some bx)) (.int .u32 (k : Int)) (.int .i64 1)).run Try.prog W = .ok () W' ∧ Beh lim w bi bm bt F M f P Ds bx (fun j => j = k ∨ Q j) sum W' ∧ Step [bx] W W' := by
  obtain ⟨es, c, hb⟩ := h.x.block
  obtain ⟨W', h1, h2, h3⟩ := h.x.put (t := 121) (e := 3) Try.underlying121 N hN hQ hk
  have n1 := h.n1
  have n2 := h.n2
  have n3 := h.n3
  exact ⟨W', h1, ⟨h.t.beside h3 (by simp; omega) (by simp; omega) (by simp; omega) (fun i hi cur hc => by simp at hi; subst hi; rw [hb] at hc; cases hc) (fun i hi => by simp at hi; have := h.lo; omega),
    h.m.same h3, h2, boxed_step h.hv h3 (by simp), boxed_step h.bs h3 (by simp; omega), h.lo, h.n1, h.n2, h.n3⟩, h3⟩
theorem Beh.add (h : Beh lim w bi bm bt F M f P Ds bx Q sum W) (s : Nat) : Beh lim w bi bm bt F M f P Ds bx Q s (W.setCell ⟨bx + 1 + 1, 0, none⟩ (.int .i64 (s : Int))) ∧ Step [bx + 1 + 1] W (W.setCell ⟨bx + 1 + 1, 0, none⟩ (.int .i64 (s : Int))) := by
  have hs : Step [bx + 1 + 1] W (W.setCell ⟨bx + 1 + 1, 0, none⟩ (.int .i64 (s : Int))) := Step.setObj h.bs rfl (by simp) _ _
  have n1 := h.n1
  have n2 := h.n2
  have n3 := h.n3
  have hlo := h.lo
  exact ⟨⟨h.t.beside hs (by simp; omega) (by simp; omega) (by simp; omega) (fun i hi cur hc => by simp at hi; subst hi; rw [show W.heap[bx + 1 + 1]? = _ from h.bs] at hc; cases hc) (fun i hi => by simp at hi; omega),
    h.m.same hs, h.x.keep hs (by simp; omega), boxed_step h.hv hs (by simp), h.bs.set _, h.lo, h.n1, h.n2, h.n3⟩, hs⟩
/-- The set's blocks as they are made. -/
theorem Beh.start (h : TolS lim w bi bm bt F M f P W) (hm : Mks w.heap.size Ds W) :
    Beh lim w bi bm bt F M f P Ds W.heap.size (fun _ => False) 0 (((W.alloc (.map #[] 0)).alloc (.cells #[.map (some W.heap.size)] 121)).alloc (.cells #[.int .i64 0] 3)) := by
  have hs : Step [] W (((W.alloc (.map #[] 0)).alloc (.cells #[.map (some W.heap.size)] 121)).alloc (.cells #[.int .i64 0] 3)) := ((Step.alloc _ _).trans (Step.alloc _ _)).trans (Step.alloc _ _)
  have hb1 := heap_lt (show W.heap[bi]? = _ from h.i.o)
  have hb2 : bm < W.heap.size := by obtain ⟨_, _, hh⟩ := h.i.m.block; exact heap_lt hh
  have hb3 : bt < W.heap.size := by obtain ⟨_, _, hh⟩ := h.s.block; exact heap_lt hh
  refine ⟨h.same hs, hm.same hs, ((MapS.made W).keep (Step.alloc (S := []) _ _) (by simp)).keep (Step.alloc (S := []) _ _) (by simp), ?_, ?_, h.st.size, hb1, hb2, hb3⟩
  · have := Boxed.new (W.alloc (.map #[] 0)) 121 (.map (some W.heap.size))
    rw [World.size_alloc] at this
    exact this.alloc _
  · have := Boxed.new ((W.alloc (.map #[] 0)).alloc (.cells #[.map (some W.heap.size)] 121)) 3 (.int .i64 0)
    simpa using this
end
theorem mem_snoc {α : Type} {pre : List α} {x j : α} : j ∈ pre ++ [x] ↔ j = x ∨ j ∈ pre := by simp [or_comm]
theorem Beh.sumUp {lim : Nat} {w W5 W6 : World} {bi bm bt F : Nat} {M : Ents} {f : Kept7} {P : Nat → Prop} {Ds : List Nat} {bx y s0 lp : Nat} {pre : List Nat} (h : Beh lim w bi bm bt F M f P Ds bx (fun j => j = y ∨ j < F ∨ j ∈ pre) s0 W5) (hs : Step [] W5 W6) (h0 : s0 = sumP pre) (hlp : lp = (payN y).length) :
    Beh lim w bi bm bt F M f P Ds bx (fun j => j < F ∨ j ∈ pre ++ [y]) (sumP (pre ++ [y])) (W6.setCell ⟨bx + 1 + 1, 0, none⟩ (.int .i64 ((s0 : Int) + (lp : Int)))) ∧ Step [bx + 1 + 1] W6 (W6.setCell ⟨bx + 1 + 1, 0, none⟩ (.int .i64 ((s0 : Int) + (lp : Int)))) := by
  have h1 := (h.same hs).add (sumP (pre ++ [y]))
  rw [sumP_snoc, ← h0, ← hlp, show ((s0 + lp : Nat) : Int) = (s0 : Int) + (lp : Int) by push_cast; rfl] at h1
  rw [sumP_snoc, ← h0, ← hlp]
  refine ⟨h1.1.congr fun j => ?_, h1.2⟩
  rw [mem_snoc]
  constructor
  · rintro (e | e | e)
    · exact .inr (.inl e)
    · exact .inl e
    · exact .inr (.inr e)
  · rintro (e | e | e)
    · exact .inr (.inl e)
    · exact .inl e
    · exact .inr (.inr e)
/-- The maps as lists, when all is told. -/
theorem Beh.lists {lim : Nat} {w W : World} {bi bm bt F : Nat} {M : Ents} {f : Kept7} {P : Nat → Prop} {Ds : List Nat} {bx s : Nat} (h : Beh lim w bi bm bt F M f P Ds bx (fun j => j < F ∨ j ∈ told13 F f) s W) (hl : lim < 1000) :
    ∃ MX MT, MapV W bx MX ∧ MapV W bt MT ∧ (∀ p ∈ MX, p.2 = one64) ∧ (∀ k, k ∈ MT.map Prod.fst → k ∈ MX.map Prod.fst) ∧ MX.length = MT.length ∧ MX.length = F + M.length := by
  obtain ⟨MX, x1, x2, x3⟩ := h.x
  obtain ⟨MT, t1, t2, t3⟩ := h.t.s
  have nx : (MX.map Prod.fst).Nodup := by obtain ⟨D, n, _, _, hD⟩ := x1; exact hD.nd
  have nt : (MT.map Prod.fst).Nodup := by obtain ⟨D, n, _, _, hD⟩ := t1; exact hD.nd
  have hk : ∀ k, k ∈ MX.map Prod.fst ↔ k ∈ MT.map Prod.fst := fun k => by
    rw [x3 k, t3 k, h.t.p k]
    show (k < F ∨ k ∈ told13 F f) ↔ _
    rw [told13_mem h.t.l hl k]
  have p1 := (perm_nodup nx nt hk).length_eq
  have nr : (List.range F ++ told13 F f).Nodup := by
    rw [List.nodup_append]
    refine ⟨List.nodup_range, told13_nodup F f, fun a ha b hb e => ?_⟩
    subst e
    obtain ⟨p, hp⟩ := Option.isSome_iff_exists.1 ((told13_mem h.t.l hl a).1 hb)
    have := (h.t.l.own a p hp).2.1
    rw [List.mem_range] at ha
    omega
  have p2 := (perm_nodup nx nr (fun k => by rw [x3 k, List.mem_append, List.mem_range])).length_eq
  have p3 := h.t.waits hl
  simp only [List.length_map, List.length_append, List.length_range] at p1 p2
  exact ⟨MX, MT, x1, t1, x2, fun k hkt => (hk k).2 hkt, p1, by omega⟩
theorem zero3 (w : World) : (zeroValue 3).run Try.prog w = .ok (.int .i64 0) w := by kernel_rfl
set_option maxRecDepth 100000 in
theorem look_one {W : World} {b : Nat} {M : Ents} (h : MapV W b M) (h1 : ∀ p ∈ M, p.2 = one64) {k : Nat} (hk : k < 4294967296) (hm : k ∈ M.map Prod.fst) : (Instr.lookup 121 (.map (some b)) (.int .u32 (k : Int)) false).run Try.prog W = .ok (.int .i64 1) W := by
  have h2 := h.look (t := 121) (e := 3) Try.underlying121 (zero3 W) hk
  obtain ⟨p, hp, rfl⟩ := List.mem_map.1 hm
  obtain ⟨D, n, _, _, hD⟩ := h
  rwa [getE_mem hD.nd hp, h1 p hp] at h2
set_option maxRecDepth 100000 in
theorem look_zero {W : World} {b : Nat} {M : Ents} (h : MapV W b M) {k : Nat} (hk : k < 4294967296) (hm : k ∉ M.map Prod.fst) : (Instr.lookup 121 (.map (some b)) (.int .u32 (k : Int)) false).run Try.prog W = .ok (.int .i64 0) W := by
  have h2 := h.look (t := 121) (e := 3) Try.underlying121 (zero3 W) hk
  have hE : hasE M k = false := by
    rw [Bool.eq_false_iff]
    intro hc
    obtain ⟨v, hv⟩ := hasE_iff.1 hc
    exact hm (List.mem_map.2 ⟨_, hv, rfl⟩)
  rwa [getE_none hE] at h2
end Go.Proofs.Ytbainekfbonbjaa
