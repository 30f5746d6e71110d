/- IntakeOrder: its walk. No statement is proved here; nothing is assumed. -/
import Derived.Test.YtbainekfbonbjaaOrdB
import Derived.Laws.EntriesVeiled
namespace Go.Proofs.Ytbainekfbonbjaa
open Go.RowKit Go.Shelf Go.Maps
set_option linter.unusedVariables false
set_option linter.unusedSimpArgs false
attribute [local go_sem] Oper.semAt_some

/-- The function value 'on'. -/
abbrev onV (b3 : Nat) : Value := .func (.func 77) #[] #[.pointer (some ⟨b3, 0, none⟩), .pointer (some ⟨b3 + 1 + 1 + 1, 0, none⟩), .pointer (some ⟨b3 + 1, 0, none⟩)]
structure OrdW (w : World) (b3 bi bm F : Nat) (M : Ents) (f : Kept7) (P : Nat → Prop) (W : World) : Prop where
  o : OrdS w b3 (b3 + 1) (b3 + 1 + 1 + 1) bi bm (b3 + 1 + 1) F F M f P W
  c6 : Boxed W (b3 + 1 + 1 + 1 + 1) 125 (onV b3)
  l1 : bi < b3
  l2 : bm < b3
section
variable {w W W' : World} {b3 bi bm F F' : Nat} {M M' : Ents} {f f' : Kept7} {P P' : Nat → Prop}
theorem OrdW.same (h : OrdW w b3 bi bm F M f P W) (hs : Step [] W W') : OrdW w b3 bi bm F M f P W' := ⟨h.o.same hs, boxed_step h.c6 hs (by simp), h.l1, h.l2⟩
theorem OrdW.calm {B : Nat} (h : OrdW w b3 bi bm F M f P W) (hc : Calm B W W') (hB : w.heap.size ≤ B) : OrdW w b3 bi bm F M f P W' := ⟨h.o.calm hc hB, boxed_calm h.c6 hc, h.l1, h.l2⟩
theorem OrdW.turn (h : OrdW w b3 bi bm F M f P W) (hs : Step [bi, bm, b3 + 1 + 1, b3 + 1] W W') (h' : OrdS w b3 (b3 + 1) (b3 + 1 + 1 + 1) bi bm (b3 + 1 + 1) F' F' M' f' P' W') : OrdW w b3 bi bm F' M' f' P' W' :=
  ⟨h', boxed_step h.c6 hs (by have := h.l1; have := h.l2; simp; omega), h.l1, h.l2⟩
end
theorem results_cell4 {fn : Func} {p : Tmp} (h : fn.results = #[.cell p 4]) (tmps : Array Value) (w : World) (g : Nat) (b : Bool) (hp : tmps.getD p undef = .pointer (some ⟨g, 0, none⟩)) (hc : w.cell? ⟨g, 0, none⟩ = some (.bool b)) : (results fn tmps).run Try.prog w = .ok (.bool b) w := by
  simp only [results, h]
  have hp' : tmps[p]?.getD undef = .pointer (some ⟨g, 0, none⟩) := by rw [← hp]; simp
  simp [Sem.run_bind, hp', asAddr, Result.andThen, go_sem, hc]
theorem leaves_marksC {P : Program} {n : Nat} {fn : Func} {tmps : Array Value} {R : Ending → World → Prop} {v : Value} {B : Nat} :
    ∀ (Ds : List Nat) (w : World), (∀ w', Calm B w w' → (results fn tmps).run P w' = .ok v w') → (∀ D ∈ Ds, B ≤ D ∧ w.heap[D]? = some (.deferred (some []))) → Ds.Nodup → (∀ w', Calm B w w' → R (.returned v) w') →
      LeavesInM Fence.wide n P fn tmps R (Ds.map markAt) .returning w
  | [], w, hres, _, _, hR => ⟨v, hres w (Calm.refl _ _), hR w (Calm.refl _ _)⟩
  | D :: Ds, w, hres, hD, hn, hR => by
    obtain ⟨hB, hd⟩ := hD D (by simp)
    rw [List.nodup_cons] at hn
    refine ⟨by simp, .inl ⟨D, _, rfl, run_takeDeferred hd, ?_⟩⟩
    have hc : Calm B w (w.putObj D (.deferred none)) := Calm.putObj _ hd rfl hB
    exact leaves_marksC Ds _ (fun w' hw => hres w' (hc.trans hw)) (fun D' h' => ⟨(hD D' (by simp [h'])).1, (World.putObj_heap_other (fun e => hn.1 (by rw [← e]; exact h'))).trans (hD D' (by simp [h'])).2⟩) hn.2 (fun w' hw => hR w' (hc.trans hw))
theorem floor_not {lim : Nat} {w W : World} {bi bm bt F : Nat} {M : Ents} {f : Kept7} {P : Nat → Prop} (h : TolS lim w bi bm bt F M f P W) : ¬ P F := by
  intro hP
  rcases (h.p F).1 hP with h1 | h1
  · omega
  · obtain ⟨p, hp⟩ := Option.isSome_iff_exists.1 h1
    have := (h.l.own F p hp).2.1
    omega
theorem floor_mono {lim : Nat} {w W W' : World} {bi bm bt F F' : Nat} {M M' : Ents} {f f' : Kept7} {P P' : Nat → Prop} (h : TolS lim w bi bm bt F M f P W) (h' : TolS lim w bi bm bt F' M' f' P' W') (hP : ∀ j, P j → P' j) : F ≤ F' :=
  Nat.le_of_not_lt fun hlt => floor_not h' (hP _ ((h.p F').2 (.inl hlt)))
theorem told_asks (bx : Nat) (L : List Nat) : Asks 79 #[.pointer (some ⟨bx + 1, 0, none⟩)] (fun n => decide (n ∈ L)) (fun x => x < 4294967296) (fun W => Boxed W (bx + 1) 121 (.map (some bx)) ∧ MapS W bx (fun j => j ∈ L)) := by
  rintro x W hx ⟨hb, hm⟩
  have c1 := hb.cell
  obtain ⟨b, hbb⟩ : ∃ b, b = decide (x ∈ L) := ⟨_, rfl⟩
  have hlk := seen_look hm hx b (by rw [hbb]; simp)
  show Calls Try.prog 79 #[.int .u32 (x : Int), .pointer (some ⟨bx + 1, 0, none⟩)] W fun e W' => e = .returned (.bool (decide (x ∈ L))) ∧ Step [] W W'
  rw [← hbb]
  clear hm hb hbb
  cases b
  all_goals
    simp only [seenV] at hlk
    go_enter Try.func79, Try.ntmps79
    go_wp2
    go_ret
    exact ⟨rfl, Step.refl _ _⟩
theorem enters79 : Enters Try.prog 79 := enters_of Try.func79 (by kernel_rfl) rfl
/-- The second loop's rounds: what lies there, and a set bx that holds what was told. -/
structure OrdT (w : World) (b3 bi bm F : Nat) (M : Ents) (f : Kept7) (P : Nat → Prop) (Ds : List Nat) (bx : Nat) (Q : Nat → Prop) (W : World) : Prop where
  o : OrdW w b3 bi bm F M f P W
  m : Mks w.heap.size Ds W
  x : MapS W bx Q
  hv : Boxed W (bx + 1) 121 (.map (some bx))
  lo : b3 + 1 + 1 + 1 + 1 < bx
section
variable {w W W' : World} {b3 bi bm F F' : Nat} {M M' : Ents} {f f' : Kept7} {P P' : Nat → Prop} {Ds : List Nat} {bx : Nat} {Q Q' : Nat → Prop}
theorem OrdT.same (h : OrdT w b3 bi bm F M f P Ds bx Q W) (hs : Step [] W W') : OrdT w b3 bi bm F M f P Ds bx Q W' := ⟨h.o.same hs, h.m.same hs, h.x.keep hs (by simp), boxed_step h.hv hs (by simp), h.lo⟩
theorem OrdT.calm {B : Nat} (h : OrdT w b3 bi bm F M f P Ds bx Q W) (hc : Calm B W W') (hB : w.heap.size ≤ B) (hD : ∀ D ∈ Ds, D < B) : OrdT w b3 bi bm F M f P Ds bx Q W' := ⟨h.o.calm hc hB, h.m.calm hc hD, h.x.calm hc, boxed_calm h.hv hc, h.lo⟩
theorem OrdT.congr (h : OrdT w b3 bi bm F M f P Ds bx Q W) (hq : ∀ k, Q k ↔ Q' k) : OrdT w b3 bi bm F M f P Ds bx Q' W := ⟨h.o, h.m, h.x.congr hq, h.hv, h.lo⟩
theorem OrdT.marks {D : Nat} (h : OrdT w b3 bi bm F M f P Ds bx Q W) (hB : w.heap.size ≤ D) (hd : W.heap[D]? = some (.deferred (some []))) (hn : D ∉ Ds) : OrdT w b3 bi bm F M f P (D :: Ds) bx Q W := ⟨h.o, h.m.cons hB hd hn, h.x, h.hv, h.lo⟩
theorem OrdT.put (h : OrdT w b3 bi bm F M f P Ds bx Q W) (N : Nat) (hN : N < 1000) (hQ : ∀ k, Q k → k < N) {k : Nat} (hk : k < 4294967296) :
    ∃ W', (Instr.mapUpdate 121 (.map (some bx)) (.int .u32 (k : Int)) (.int .i64 1)).run Try.prog W = .ok () W' ∧ OrdT w b3 bi bm F M f P Ds bx (fun j => j = k ∨ Q j) W' ∧ Step [bx] W W' := by
  obtain ⟨es, c, hb⟩ := h.x.block
  obtain ⟨W', h1, h2, h3⟩ := h.x.put (t := 121) (e := 3) Try.underlying121 N hN hQ hk
  have l1 := h.o.l1
  have l2 := h.o.l2
  have lo := h.lo
  have l4 := h.o.o.l4
  exact ⟨W', h1, ⟨⟨⟨h.o.o.t.beside h3 (by simp; omega) (by simp; omega) (by simp; omega) (fun i hi cur hc => by simp at hi; subst hi; rw [hb] at hc; cases hc) (fun i hi => by simp at hi; omega), boxed_step h.o.o.c3 h3 (by simp; omega), boxed_step h.o.o.c4 h3 (by simp; omega), boxed_step h.o.o.c5 h3 (by simp; omega), h.o.o.l4⟩, boxed_step h.o.c6 h3 (by simp; omega), h.o.l1, h.o.l2⟩,
    h.m.same h3, h2, boxed_step h.hv h3 (by simp), h.lo⟩, h3⟩
theorem OrdT.turn (h : OrdT w b3 bi bm F M f P Ds bx Q W) (hs : Step [bi, bm, b3 + 1 + 1, b3 + 1] W W') (h' : OrdS w b3 (b3 + 1) (b3 + 1 + 1 + 1) bi bm (b3 + 1 + 1) F' F' M' f' P' W') : OrdT w b3 bi bm F' M' f' P' Ds bx Q W' := by
  have l1 := h.o.l1
  have l2 := h.o.l2
  have lo := h.lo
  exact ⟨h.o.turn hs h', h.m.same hs, h.x.keep hs (by simp; omega), boxed_step h.hv hs (by simp; omega), h.lo⟩
end
/-- What the loop over what is missing goes along with. -/
def MissI (w : World) (b3 bi bm F T : Nat) (P : Nat → Prop) (Ds : List Nat) (bx n1 : Nat) (L : List Nat) (pre : List Nat) (W : World) : Prop :=
  (∃ F2 M2 f2 P2, OrdT w b3 bi bm F2 M2 f2 P2 Ds bx (fun j => j ∈ L) W ∧ (∀ j, P j → P2 j) ∧ (∀ j ∈ pre, P2 j) ∧ F ≤ F2) ∧
  (W.heap[n1 + 1 + 1]? = some (spanObj F T) ∧ (Boxed W (n1 + 1 + 1 + 1) 28 (.func (.func 87) #[] #[.pointer (some ⟨n1 + 1 + 1, 0, none⟩)]) ∧ Boxed W (n1 + 1 + 1 + 1 + 1) 27 (.func (.func 82) #[] #[.pointer (some ⟨n1 + 1, 0, none⟩)])) ∧ (Boxed W (n1 + 1) 27 (.func (.func 79) #[] #[.pointer (some ⟨bx + 1, 0, none⟩)]) ∧ (Boxed W (bx + 1) 121 (.map (some bx)) ∧ MapS W bx (fun j => j ∈ L))))
theorem MissI.calm {w W W' : World} {b3 bi bm F T B : Nat} {P : Nat → Prop} {Ds : List Nat} {bx n1 : Nat} {L pre : List Nat} (h : MissI w b3 bi bm F T P Ds bx n1 L pre W) (hc : Calm B W W') (hB : w.heap.size ≤ B) (hD : ∀ D ∈ Ds, D < B) : MissI w b3 bi bm F T P Ds bx n1 L pre W' := by
  obtain ⟨⟨F2, M2, f2, P2, h1, h2⟩, r1, ⟨r2, r3⟩, r4, r5, r6⟩ := h
  exact ⟨⟨F2, M2, f2, P2, h1.calm hc hB hD, h2⟩, obj_calm r1 hc rfl, ⟨boxed_calm r2 hc, boxed_calm r3 hc⟩, boxed_calm r4 hc, boxed_calm r5 hc, r6.calm hc⟩
theorem miss_step {w W5 W6 W7 : World} {b3 bi bm F T F2 F3 y : Nat} {M2 M3 : Ents} {f2 f3 : Kept7} {P P2 P3 : Nat → Prop} {Ds : List Nat} {bx n1 : Nat} {L pre : List Nat}
    (h5 : OrdT w b3 bi bm F2 M2 f2 P2 Ds bx (fun j => j ∈ L) W5 ∧ (∀ j, P j → P2 j) ∧ (∀ j ∈ pre, P2 j) ∧ F ≤ F2 ∧ y < F + 16 ∧ bx + 1 < n1 ∧
      (W5.heap[n1 + 1 + 1]? = some (spanObj F T) ∧ (Boxed W5 (n1 + 1 + 1 + 1) 28 (.func (.func 87) #[] #[.pointer (some ⟨n1 + 1 + 1, 0, none⟩)]) ∧ Boxed W5 (n1 + 1 + 1 + 1 + 1) 27 (.func (.func 82) #[] #[.pointer (some ⟨n1 + 1, 0, none⟩)])) ∧ Boxed W5 (n1 + 1) 27 (.func (.func 79) #[] #[.pointer (some ⟨bx + 1, 0, none⟩)])))
    (h6 : Step [] W5 W6) (h7 : OrdT w b3 bi bm F3 M3 f3 P3 Ds bx (fun j => j ∈ L) W7 ∧ Step [bi, bm, b3 + 1 + 1, b3 + 1] W6 W7 ∧ ∀ j, P3 j ↔ (P2 j ∨ (j = y ∧ y < F2 + 16))) :
    BookX [] W5 W7 ∧ MissI w b3 bi bm F T P Ds bx n1 L (pre ++ [y]) W7 := by
  obtain ⟨o5, p1, p2, hF, hy, hbn, r1, ⟨r2, r3⟩, r4⟩ := h5
  obtain ⟨o7, s7, q7⟩ := h7
  have l1 := o5.o.l1
  have l2 := o5.o.l2
  have lo := o5.lo
  refine ⟨h6.book.trans s7.book, ⟨F3, M3, f3, P3, o7, fun j hj => (q7 j).2 (.inl (p1 j hj)), fun j hj => ?_, Nat.le_trans hF (floor_mono o5.o.o.t o7.o.o.t fun j hj => (q7 j).2 (.inl hj))⟩, ?_, ⟨?_, ?_⟩, ?_, o7.hv, o7.x⟩
  · rcases mem_snoc.1 hj with e | e
    · exact (q7 j).2 (.inr ⟨e, by omega⟩)
    · exact (q7 j).2 (.inl (p2 j e))
  · exact obj_step (obj_step r1 h6 (by simp)) s7 (by simp; omega)
  · exact boxed_step (boxed_step r2 h6 (by simp)) s7 (by simp; omega)
  · exact boxed_step (boxed_step r3 h6 (by simp)) s7 (by simp; omega)
  · exact boxed_step (boxed_step r4 h6 (by simp)) s7 (by simp; omega)
theorem step_draw {W W' : World} (h : Step [] W.drew W') : Step [] W W' := (Step.drew W).trans h
theorem lits_reads (w : World) (xs : List Nat) (fr : Nat × Nat) (hl : xs.length < 1000 := by simp) : Reads (w.alloc (.cells (u8s xs).toArray 5 fr)) (.slice (some ⟨w.heap.size, 0, none⟩) xs.length xs.length) (u8s xs) := by
  refine .inr ⟨w.heap.size, 0, xs.length, by rw [u8s_length], by rw [u8s_length]; exact Nat.le_refl _, by unfold maxLen; omega, fun j hj => ?_⟩
  have hh : (w.alloc (.cells (u8s xs).toArray 5 fr)).heap[w.heap.size]? = some (.cells (u8s xs).toArray 5 fr) := by rw [heap_alloc_get, if_pos rfl]
  rw [Nat.zero_add, List.getElem?_eq_getElem hj]
  exact cells_cell hh (by rw [List.getElem?_toArray, List.getElem?_eq_getElem hj])
theorem wpIn_cutB {F : Fence} {rm id : Nat} {Pr : Program} {s : Code} {K : Act → World → Prop} {Q' : Exit → Act → World → Prop} {a : Act} {w : World} (R : Act → World → Prop) (rest : ∀ a' w', R a' w' → K a' w')
    (first : s.wpIn F rm Pr (Exit.inBlock id (Exit.then R Q')) a w) : s.wpIn F rm Pr (Exit.inBlock id (Exit.then K Q')) a w := by
  refine wpIn_mono first ?_
  intro e a' w' hq
  cases e with
  | normal => exact rest _ _ hq
  | exit id' =>
    simp only [Exit.inBlock] at hq ⊢
    split
    · rename_i h; rw [if_pos h] at hq; exact rest _ _ hq
    · rename_i h; rw [if_neg h] at hq; exact hq
  | goto l => exact hq
  | ret => exact hq
  | panic ch => exact hq
  | outgrown => exact hq
set_option maxRecDepth 100000 in
def ordFrame (q : Option Addr) (N cap bi b2 b3 : Nat) (U : Nat → Value) : Array Value := #[.slice q N cap, U 1, .pointer (some ⟨b2, 0, none⟩), .pointer (some ⟨b3, 0, none⟩), .pointer (some ⟨b3 + 1, 0, none⟩), .pointer (some ⟨b3 + 1 + 1 + 1, 0, none⟩), .pointer (some ⟨b3 + 1 + 1 + 1 + 1, 0, none⟩), U 7, U 8, U 9, U 10, U 11, U 12, U 13, U 14, U 15, .pointer (some ⟨bi, 0, none⟩), .map (some (b3 + 1 + 1)), onV b3, .slice q N cap, .int .i64 (N : Int), U 21, U 22, U 23, U 24, U 25, U 26, U 27, U 28, U 29, U 30, U 31, U 32, U 33, U 34, U 35, U 36, U 37, U 38, U 39, U 40, U 41, U 42, U 43, U 44, U 45, U 46, U 47, U 48, U 49, U 50, U 51, U 52, U 53, U 54, U 55, U 56, U 57, U 58, U 59, U 60, U 61, U 62, U 63, U 64, U 65, U 66, U 67, U 68, U 69, U 70, U 71, U 72, U 73, U 74, U 75, U 76, U 77, U 78, U 79, U 80, U 81, U 82, U 83, U 84, U 85, U 86, U 87, U 88, U 89, U 90]
/-- Behind the first loop. -/
def OrdI (q : Option Addr) (N cap bi bm b2 b3 : Nat) (w : World) (a : Act) (W : World) : Prop :=
  ∃ (U : Nat → Value) (F : Nat) (M : Ents) (f : Kept7) (P : Nat → Prop), OrdW w b3 bi bm F M f P W ∧ a = { tmps := ordFrame q N cap bi b2 b3 U, defers := [] }
theorem OrdI.intro {q : Option Addr} {N cap bi bm b2 b3 : Nat} {w W : World} {tmps : Array Value} {defers : List Deferred} {F : Nat} {M : Ents} {f : Kept7} {P : Nat → Prop} (h : OrdW w b3 bi bm F M f P W) (ht : tmps = ordFrame q N cap bi b2 b3 (fun i => tmps.getD i undef)) (hd : defers = []) : OrdI q N cap bi bm b2 b3 w { tmps := tmps, defers := defers } W :=
  ⟨fun i => tmps.getD i undef, F, M, f, P, h, by rw [hd, ← ht]⟩
set_option maxRecDepth 100000 in
def ordFrame2 (q : Option Addr) (N cap bi b2 b3 r : Nat) (U : Nat → Value) : Array Value := #[.slice q N cap, U 1, .pointer (some ⟨b2, 0, none⟩), .pointer (some ⟨b3, 0, none⟩), .pointer (some ⟨b3 + 1, 0, none⟩), .pointer (some ⟨b3 + 1 + 1 + 1, 0, none⟩), .pointer (some ⟨b3 + 1 + 1 + 1 + 1, 0, none⟩), U 7, U 8, U 9, U 10, U 11, U 12, U 13, U 14, U 15, .pointer (some ⟨bi, 0, none⟩), .map (some (b3 + 1 + 1)), onV b3, .slice q N cap, .int .i64 (N : Int), U 21, U 22, U 23, U 24, U 25, U 26, U 27, U 28, U 29, U 30, U 31, U 32, U 33, U 34, U 35, U 36, U 37, U 38, U 39, U 40, U 41, U 42, U 43, U 44, .int .i64 (r : Int), U 46, U 47, U 48, U 49, U 50, U 51, U 52, U 53, U 54, U 55, U 56, U 57, U 58, U 59, U 60, U 61, U 62, U 63, U 64, U 65, U 66, U 67, U 68, U 69, U 70, U 71, U 72, U 73, U 74, U 75, U 76, U 77, U 78, U 79, U 80, U 81, U 82, U 83, U 84, U 85, U 86, U 87, U 88, U 89, U 90]
/-- At the head of the second loop: r rounds are done, and the floor is at r at least, or at the end. -/
def OrdJ (q : Option Addr) (N cap bi bm b2 b3 : Nat) (w : World) (a : Act) (W : World) : Prop :=
  ∃ (U : Nat → Value) (r : Nat) (Ds : List Nat) (F : Nat) (M : Ents) (f : Kept7) (P : Nat → Prop), r ≤ 50 ∧ min r 40 ≤ F ∧ OrdW w b3 bi bm F M f P W ∧ Mks w.heap.size Ds W ∧ a = { tmps := ordFrame2 q N cap bi b2 b3 r U, defers := Ds.map markAt }
theorem OrdJ.intro {q : Option Addr} {N cap bi bm b2 b3 : Nat} {w W : World} {tmps : Array Value} {defers : List Deferred} (r : Nat) (Ds : List Nat) {F : Nat} {M : Ents} {f : Kept7} {P : Nat → Prop} (h1 : r ≤ 50) (h2 : min r 40 ≤ F) (h : OrdW w b3 bi bm F M f P W) (hm : Mks w.heap.size Ds W)
    (ht : tmps = ordFrame2 q N cap bi b2 b3 r (fun i => tmps.getD i undef)) (hd : defers = Ds.map markAt) : OrdJ q N cap bi bm b2 b3 w { tmps := tmps, defers := defers } W :=
  ⟨fun i => tmps.getD i undef, r, Ds, F, M, f, P, h1, h2, h, hm, by rw [hd, ← ht]⟩
set_option maxRecDepth 100000 in
set_option maxHeartbeats 8000000 in
theorem order_walk (q : Option Addr) (N cap : Nat) (xs : List Nat) (hN : N = xs.length) (hx : ∀ x ∈ xs, x < 256) (w : World) (hr : Reads w (.slice q N cap) (u8s xs)) :
    Calls Try.prog 14 #[.slice q N cap] w fun e w' => e = .returned (.bool true) ∧ Step [] w w' := by
  have hNc : N ≤ cap ∧ cap ≤ maxLen := by
    obtain ⟨q', cap', h1, h2, h3⟩ := hr.form
    rw [u8s_length] at h1 h2
    injection h1 with e1 e2 e3
    subst e3
    omega
  have hNm : (N : Int) ≤ 9223372036854775807 := by unfold maxLen at hNc; omega
  have HR := Lib.hid (And.intro hr (And.intro hN hx))
  clear hr hN hx hNc
  have hmm := @run_makeMap Try.prog
  refine (callsIn_wide (n := 0)).1 (callsIn_of_wp_marks Try.func14 rfl trivial ?_ rfl)
  simp only [Try.ntmps14, List.size_toArray, List.length_cons, List.length_nil, Nat.reduceAdd, Nat.reduceSub, Array.replicate_succ, Array.replicate_zero, List.push_toArray, List.append_toArray, List.nil_append, List.cons_append]
  gi_wp2_with fail
  refine (inW (new7_any _)).mono ?_
  rintro e w1 ⟨bi, bm, rfl, hI, hs⟩
  have HI := Lib.hid hI
  have HS := Lib.hid hs
  clear hI hs
  gi_wp2_with fail
  clear hmm
  obtain ⟨b3, hb3⟩ : ∃ b3, b3 = w1.heap.size := ⟨_, rfl⟩
  have hs2 : Step [] w1 (((((w1.alloc (.cells #[.pointer (some ⟨bi, 0, none⟩)] 98)).alloc (.cells #[.int .u32 0] 22)).alloc (.map #[] 0)).alloc (.cells #[.map (some (w1.heap.size + 1 + 1))] 121)).alloc (.cells #[onV w1.heap.size] 125)) := ((((Step.alloc _ _).trans (Step.alloc _ _)).trans (Step.alloc _ _)).trans (Step.alloc _ _)).trans (Step.alloc _ _)
  obtain ⟨w2, hw2⟩ : ∃ w2, w2 = (((((w1.alloc (.cells #[.pointer (some ⟨bi, 0, none⟩)] 98)).alloc (.cells #[.int .u32 0] 22)).alloc (.map #[] 0)).alloc (.cells #[.map (some (w1.heap.size + 1 + 1))] 121)).alloc (.cells #[onV w1.heap.size] 125)) := ⟨_, rfl⟩
  have hl1 : bi < w1.heap.size := heap_lt (show w1.heap[bi]? = _ from HI.out.o)
  have hl2 : bm < w1.heap.size := by obtain ⟨_, _, hh⟩ := HI.out.m.block; exact heap_lt hh
  have hlo := HI.out.lo
  have h0 : OrdW (w.alloc (.cells #[.bool false] 4)) w1.heap.size bi bm 0 [] (fun _ => none) (fun _ => False) w2 := by
    rw [← hw2] at hs2
    refine ⟨⟨⟨HI.out.same hs2, Law7.start 40, ?_, fun j => by simp, by have := HS.out.size; omega, by omega, HS.out.trans hs2⟩, ?_, ?_, ?_, by have := HS.out.size; omega⟩, ?_, hl1, hl2⟩
    · have := MapS.made ((w1.alloc (.cells #[.pointer (some ⟨bi, 0, none⟩)] 98)).alloc (.cells #[.int .u32 0] 22))
      rw [World.size_alloc, World.size_alloc] at this
      rw [hw2]
      exact (this.keep (Step.alloc (S := []) _ _) (by simp)).keep (Step.alloc (S := []) _ _) (by simp)
    all_goals
      rw [hw2]
      simp only [Boxed, heap_alloc_get, World.size_alloc]
      repeat first | rfl | rw [if_pos (by omega)] | rw [if_neg (by omega)] | rw [if_pos trivial]
  change Code.wpIn Fence.wide 0 Try.prog _ _ _ (((((w1.alloc (.cells #[.pointer (some ⟨bi, 0, none⟩)] 98)).alloc (.cells #[.int .u32 0] 22)).alloc (.map #[] 0)).alloc (.cells #[.map (some (w1.heap.size + 1 + 1))] 121)).alloc (.cells #[onV w1.heap.size] 125))
  rw [← hw2]
  rw [← hb3] at h0 ⊢
  have H0 := Lib.hid h0
  obtain ⟨b2, hb2⟩ : ∃ b2, b2 = w.heap.size := ⟨_, rfl⟩
  have HB2 := Lib.hid hb2
  rw [← hb2]
  clear h0 hs2 hw2 hl1 hl2 hlo HI HS hb3 hb2
  refine wpIn_cutB (OrdI q N cap bi bm b2 b3 (w.alloc (.cells #[.bool false] 4))) ?rest ?first
  case first =>
    obtain ⟨wz, hwz⟩ : ∃ wz, wz = w.alloc (.cells #[.bool false] 4) := ⟨_, rfl⟩
    have hsz : Step [] w wz := by rw [hwz]; exact Step.alloc _ _
    rw [← hwz] at H0 ⊢
    have HZ := Lib.hid hsz
    clear hwz hsz
    gi_loopw [21] (fun i wr => ∃ (k F : Nat) (M : Ents) (f : Kept7) (P : Nat → Prop), k ≤ N ∧ i = .int .i64 (k : Int) ∧ Hid (OrdW wz b3 bi bm F M f P wr)) (fun i wr => N - (intOf i).toNat)
    case atStart => exact ⟨0, _, _, _, _, by omega, rfl, H0.out⟩
    case round =>
      obtain ⟨k, F, M, f, P, hk, rfl, hI⟩ := hrel
      clear H0
      by_cases hlt : k < N
      · obtain ⟨x, hxk⟩ : ∃ x, xs[k]? = some x := ⟨_, List.getElem?_eq_getElem (by rw [← HR.out.2.1]; exact hlt)⟩
        have hx256 : x < 256 := HR.out.2.2 x (List.mem_of_getElem? hxk)
        obtain ⟨g, off, cc, hv, hc1, hc2, hcell⟩ := (HR.out.1.same (HZ.out.trans hI.out.o.t.st)).cellAt (j := k) (x := .int .u8 (x : Int)) (by rw [u8s_get, hxk]; rfl)
        rw [u8s_length, ← HR.out.2.1] at hv hc1
        injection hv with e1 e2 e3
        subst e1
        subst e3
        have hsN : ((k : Int) < (N : Int)) = True := by simp; omega
        have hkN : (k : Int) < (N : Int) := by omega
        by_cases h120 : k = 120
        · have b120 : ((k : Int) == 120) = true := by simp; omega
          clear e2 hxk h120
          gi_wp2_with fail
          exact OrdI.intro hI.out (by kernel_rfl) rfl
        have b120 : ((k : Int) == 120) = false := by simp; omega
        obtain ⟨n, hn⟩ : ∃ n, n = x % 40 := ⟨_, rfl⟩
        have hn40 : n < 40 := by omega
        have d1 : (x : Int) % 40 = (n : Int) := by omega
        have d2 : (x : Int).tmod 40 = (n : Int) := by rw [Int.tmod_eq_emod_of_nonneg (by omega)]; exact d1
        have d3 : IntKind.u32.wrap (n : Int) = (n : Int) := by rw [IntKind.wrap_u32]; omega
        have hw2 : IntKind.i64.wrap ((k : Int) + 1) = ((k : Int) + 1) := by rw [IntKind.wrap_i64]; omega
        have HK := Lib.hid hlt
        have HNN := Lib.hid hn40
        clear hn hxk hx256 e2 hc1 hc2 h120 hlt hk hn40
        gi_wp2_with fail
        refine (inW (payload_any n (by have := HNN.out; omega) _)).mono ?_
        rintro e W5 ⟨v5, rfl, ho5, hs5⟩
        obtain ⟨q5, n5, c5', rfl⟩ := ho5.slice'
        have hlen5 : n5 = (payN n).length := by
          obtain ⟨q', c', h6, _⟩ := ho5.form
          injection h6 with e1 e2 e3
          rw [e2, u8s_length]
        have h5 := hI.out.same hs5
        have c5 := h5.o.c5.cell
        have c6 := h5.c6.cell
        obtain ⟨s, hs⟩ : ∃ s : Bool, s = true ↔ P n := by
          by_cases hP : P n
          · exact ⟨true, by simp [hP]⟩
          · exact ⟨false, by simp [hP]⟩
        have hlk := seen_look h5.o.t.s (k := n) (by have := HNN.out; omega) s hs
        cases e : s with
        | true =>
          subst e
          simp only [seenV, if_true] at hlk
          have hP : P n := hs.1 rfl
          have hs6 : Step [] W5 (W5.alloc (.cells (u8s [111, 116, 104, 101, 114]).toArray 5 (5, 6))) := Step.alloc _ _
          have h6 := h5.same hs6
          have c66 : (W5.alloc (.cells #[.int .u8 111, .int .u8 116, .int .u8 104, .int .u8 101, .int .u8 114] 5 (5, 6))).cell? ⟨b3 + 1 + 1 + 1 + 1, 0, none⟩ = some (onV b3) := h6.c6.cell
          have HO := Lib.hid (on_any wz b3 (b3 + 1) (b3 + 1 + 1 + 1) bi bm (b3 + 1 + 1) F M f P n HNN.out (some ⟨W5.heap.size, 0, none⟩) 5 5 [111, 116, 104, 101, 114] rfl (by simp) _ h6.o (lits_reads W5 [111, 116, 104, 101, 114] (5, 6)) (fun h => absurd hP h))
          have H6 := Lib.hid h6
          have cv := fun (X : World) (C : Array Value) (n c : Nat) => Lib.run_convert_bytes_const (P := Try.prog) X 71 5 C n c Try.underlying71 Try.underlying5
          clear hI h5 hs5 ho5 hs hP hs6 h6 hlen5
          gi_wp2_with fail
          refine (inW HO.out).mono ?_
          rintro e W7 ⟨rfl, F', M', f', P', h7, hs7, _⟩
          have H7 := Lib.hid (H6.out.turn hs7 h7)
          clear h7 hs7 hlk cv
          gi_wp2_with fail
          go_roundw
          case rel => exact ⟨k + 1, F', M', f', P', by have := HK.out; omega, by go_num, H7.out⟩
          case measure => have := HK.out; simp [intOf]; omega
        | false =>
          subst e
          have hP : ¬ P n := fun h => by have := hs.2 h; cases this
          simp only [seenV] at hlk
          have HO := Lib.hid (on_any wz b3 (b3 + 1) (b3 + 1 + 1 + 1) bi bm (b3 + 1 + 1) F M f P n HNN.out q5 n5 c5' (payN n) hlen5 (by rw [payN_len]; omega) _ h5.o ho5.reads (fun _ => rfl))
          have H6 := Lib.hid h5
          clear hI h5 hs5 ho5 hs hP hlen5
          gi_wp2_with fail
          refine (inW HO.out).mono ?_
          rintro e W7 ⟨rfl, F', M', f', P', h7, hs7, _⟩
          have H7 := Lib.hid (H6.out.turn hs7 h7)
          clear h7 hs7 hlk
          gi_wp2_with fail
          go_roundw
          case rel => exact ⟨k + 1, F', M', f', P', by have := HK.out; omega, by go_num, H7.out⟩
          case measure => have := HK.out; simp [intOf]; omega
      · have hsN : ((k : Int) < (N : Int)) = False := by simp; omega
        gi_wp2_with fail
        exact OrdI.intro hI.out (by kernel_rfl) rfl
  case rest =>
    rintro a W ⟨U, F, M, f, P, hI, rfl⟩
    simp only [ordFrame]
    clear H0
    have HI := Lib.hid hI
    clear hI
    obtain ⟨wz, hwz⟩ : ∃ wz, wz = w.alloc (.cells #[.bool false] 4) := ⟨_, rfl⟩
    rw [← hwz] at HI
    have hzb : Boxed wz b2 4 (.bool false) := by rw [hwz, HB2.out]; exact Boxed.new _ _ _
    have HZ := Lib.hid (And.intro (show Step [] w wz by rw [hwz]; exact Step.alloc _ _) hzb)
    clear hwz hzb
    gi_wp2_with fail
    refine wpIn_loop (OrdJ q N cap bi bm b2 b3 wz) (fun a _ => 50 - (intOf (a.tmps.getD 45 undef)).toNat) ?start ?round
    case start => exact OrdJ.intro 0 [] (by omega) (by omega) HI.out (Mks.nil _ _) (by kernel_rfl) rfl
    case round =>
      clear HI
      rintro a W ⟨U, r, Ds, F, M, f, P, hr50, hrF, hI, hM, rfl⟩
      simp only [ordFrame2]
      have c3 := hI.o.c3.cell
      have hF40 : F ≤ 40 := hI.o.t.l.le
      by_cases hlt : r < 50
      · have sl : ((r : Int) < 50) = True := by simp; omega
        have hmm := @run_makeMap Try.prog
        obtain ⟨mk, hmk⟩ : ∃ mk, mk = toldM F f := ⟨_, rfl⟩
        have HT := Lib.hid (told7_M wz.heap.size bi bm F (by omega) M f W hI.o.t.i mk hmk.symm)
        have hw2 : IntKind.i64.wrap ((r : Int) + 1) = ((r : Int) + 1) := by rw [IntKind.wrap_i64]; omega
        have HI := Lib.hid (And.intro hI hM)
        have HRR := Lib.hid (And.intro hrF hlt)
        have HMK := Lib.hid hmk
        clear hI hM hmk hr50 hlt hrF
        gi_wp2_with fail
        refine (inW HT.out).mono ?_
        clear HT
        rintro e W3 ⟨rfl, hs3⟩
        have h3 := HI.out.1.same hs3
        have m3 := HI.out.2.same hs3
        have HS3 := Lib.hid hs3
        clear hs3
        gi_wp2_with (first
          | (gi_at_call 29; refine (inW (told_any _ _ _)).mono ?_; rintro e w12 ⟨rfl, hw12⟩; have HW12 := Lib.hid hw12; clear hw12)
          | (gi_at_call 18; refine (inW (safe_any _ _ _)).mono ?_; rintro e w' ⟨rfl, rfl⟩)
          | fail)
        clear hmm
        obtain ⟨hz12, hs12, t0, t1, t2, t3, t4⟩ := told_blocks _ _ _ _ HW12.out
        simp only [World.size_alloc] at hz12 t0 t1 t2 t3 t4
        have hs0 : Step [] W3 ((W3.alloc (.map #[] 0)).alloc (.cells #[.map (some W3.heap.size)] 121)) := (Step.alloc _ _).trans (Step.alloc _ _)
        obtain ⟨bx, hbx⟩ : ∃ bx, bx = W3.heap.size := ⟨_, rfl⟩
        have hb12 : OrdT wz b3 bi bm F M f P Ds bx (fun j => j ∈ ([] : List Nat)) w12 := by
          refine ⟨(h3.same hs0).same hs12, (m3.same hs0).same hs12, ?_, ?_, ?_⟩
          · rw [hbx]
            exact (((MapS.made W3).keep (Step.alloc (S := []) _ _) (by simp)).keep hs12 (by simp)).congr (fun j => by simp)
          · have := Boxed.new (W3.alloc (.map #[] 0)) 121 (.map (some W3.heap.size))
            rw [World.size_alloc] at this
            rw [hbx]
            exact boxed_step this hs12 (by simp)
          · rw [hbx]; exact heap_lt (show W3.heap[b3 + 1 + 1 + 1 + 1]? = _ from h3.c6)
        rw [← hbx] at hz12 t0 t1 t2 t3 t4 ⊢
        obtain ⟨n0, hn0⟩ : ∃ n0, n0 = bx + 1 + 1 := ⟨_, rfl⟩
        rw [← hn0] at hz12 t0 t1 t2 t3 t4 ⊢
        have hmk : mk < 4294967296 := by rw [HMK.out]; exact toldM_lt _ _
        have hDs : ∀ D ∈ Ds, D < w12.heap.size := hb12.m.lt
        have hbw : wz.heap.size ≤ w12.heap.size := hb12.o.o.t.st.size
        have hL : told13 F f = toldL F mk := by rw [HMK.out]; rfl
        have HL := Lib.hid (And.intro hL hn0)
        clear HW12 hs12 hs0 h3 m3 hbx hL hn0 c3
        refine range_outer1 (v := fun x : Nat => .int .u32 (x : Int)) [] rfl enters107 (told_gives F mk n0 (by omega) hmk) (by simp) rfl rfl
          (fun pre W => OrdT wz b3 bi bm F M f P Ds bx (fun j => j ∈ pre) W ∧
            (Boxed W (n0 + 1 + 1) 22 (.int .u32 (F : Int)) ∧ (Boxed W (n0 + 1 + 1 + 1) 28 (.func (.func 108) #[] #[.pointer (some ⟨n0 + 1 + 1, 0, none⟩)]) ∧ Boxed W (n0 + 1 + 1 + 1 + 1) 27 (.func (.func 89) #[] #[.pointer (some ⟨n0 + 1, 0, none⟩), .pointer (some ⟨n0, 0, none⟩)])) ∧ (Boxed W (n0 + 1) 22 (.int .u32 (mk : Int)) ∧ Boxed W n0 22 (.int .u32 (F : Int)))))
          (fun _ _ _ => False)
          (fun s A B h hc => ⟨h.1.calm hc hbw hDs, boxed_calm h.2.1 hc, ⟨boxed_calm h.2.2.1.1 hc, boxed_calm h.2.2.1.2 hc⟩, boxed_calm h.2.2.2.1 hc, boxed_calm h.2.2.2.2 hc⟩)
          (fun _ => abide_false _) (fun pre W h => h.2) ⟨hb12, t2, ⟨t3, t4⟩, t1, t0⟩
          ?body1 ?done1 ?stop1
        case body1 =>
          rintro l pre y W4 hl _ ⟨hb4, r1, ⟨r2, r3⟩, r4, r5⟩ hadm
          have hysub : ∀ j, j ∈ pre ++ [y] → j < 40 := fun j hj => by
            have hj2 := hadm.subset hj
            rw [← HL.out.1] at hj2
            obtain ⟨p, hp⟩ := Option.isSome_iff_exists.1 ((told13_mem hb4.o.o.t.l (by omega) j).1 hj2)
            exact (hb4.o.o.t.l.own j p hp).2.2.2
          have hy := hysub y (by simp)
          obtain ⟨W5, hup, hb5, hs5⟩ := hb4.put 40 (by omega) (fun j hj => hysub j (List.mem_append_left _ hj)) (k := y) (by omega)
          have hc4 := hb4.hv.cell
          have hnb := HL.out.2
          have H5 := Lib.hid (And.intro (hb5.congr (fun j => (mem_snoc (pre := pre) (x := y) (j := j)).symm)) (And.intro hs5.book (And.intro (boxed_step r1 hs5 (by simp; omega)) (And.intro (And.intro (boxed_step r2 hs5 (by simp; omega)) (boxed_step r3 hs5 (by simp; omega))) (And.intro (boxed_step r4 hs5 (by simp; omega)) (boxed_step r5 hs5 (by simp; omega)))))))
          simp only [frame1]
          clear hb4 r1 r2 r3 r4 r5 hb5 hs5 hb12 t0 t1 t2 t3 t4 hadm hysub hnb
          gi_wp2_with fail
          exact ⟨H5.out.2.1, H5.out.1, H5.out.2.2⟩
        case stop1 =>
          rintro D c pre W hD h hd
          exact h.elim
        case done1 =>
          rintro D1 ys W4 hD1 rfl ⟨hb4, _⟩ hd1
          have hb5 := hb4.marks (by omega) hd1 (fun hm => by have := hDs D1 hm; omega)
          rw [← HL.out.1] at hb5
          have H11 := Lib.hid hb5
          clear hb4 hb5 hb12 t0 t1 t2 t3 t4 hd1 hDs hbw hz12 hD1 HL hmk
          obtain ⟨T, hT⟩ : ∃ T, T = min (F + 16) 40 := ⟨_, rfl⟩
          have hwF : IntKind.u32.wrap ((F : Int) + 16) = (F : Int) + 16 := by rw [IntKind.wrap_u32]; omega
          have hTe : (if (40 : Int) < (F : Int) + 16 then (40 : Int) else (F : Int) + 16) = (T : Int) := by
            rw [hT]; split <;> omega
          have HTT := Lib.hid hT
          clear hT
          gi_wp2_with (first
            | (gi_at_call 19; refine (inW (missing_any _ _ _ _ _)).mono ?_; rintro e w5 ⟨rfl, hwm⟩; have HWM := Lib.hid hwm; clear hwm)
            | (gi_at_call 18; refine (inW (safe_any _ _ _)).mono ?_; rintro e w' ⟨rfl, rfl⟩)
            | fail)
          clear hTe hwF
          obtain ⟨hz5, hs5, t1, t2, t3, t4⟩ := missing_blocks _ _ _ _ _ _ HWM.out
          obtain ⟨n1, hn1⟩ : ∃ n1, n1 = W4.heap.size := ⟨_, rfl⟩
          rw [← hn1] at hz5 t1 t2 t3 t4 ⊢
          have hb5 := H11.out.same hs5
          have hbn : bx + 1 < n1 := by rw [hn1]; exact heap_lt (show W4.heap[bx + 1]? = _ from H11.out.hv)
          have hDs : ∀ D ∈ D1 :: Ds, D < w5.heap.size := hb5.m.lt
          have hbw : wz.heap.size ≤ w5.heap.size := hb5.o.o.t.st.size
          have HBN := Lib.hid hbn
          have hT40 : T ≤ 40 := by rw [HTT.out]; omega
          clear HWM hs5 hn1 hbn
          refine range_outer1 (v := fun x : Nat => .int .u32 (x : Int)) [] rfl enters107 (missing_gives F T (by omega) (by omega) enters79 (told_asks bx (told13 F f)) (fun x h1 h2 => by omega) n1) (by simp) rfl rfl
            (MissI wz b3 bi bm F T P (D1 :: Ds) bx n1 (told13 F f)) (fun _ _ _ => False) (fun s A B h hc => h.calm hc hbw hDs) (fun _ => abide_false _) (fun pre W h => h.2)
            ⟨⟨F, M, f, P, hb5, fun _ h => h, by simp, Nat.le_refl _⟩, t2, ⟨t3, t4⟩, t1, hb5.hv, hb5.x⟩
            ?body2 ?done2 ?stop2
          case body2 =>
            rintro l pre y W5 hl hlr ⟨⟨F2, M2, f2, P2, o5, p1, p2, hF2⟩, r1, ⟨r2, r3⟩, r4, r5, r6⟩ hadm
            have hy := range'_mem (List.mem_filter.1 (hadm.subset (show y ∈ pre ++ [y] by simp))).1
            have HY := Lib.hid (show y < 40 by omega)
            have hT16 : T ≤ F + 16 := by rw [HTT.out]; omega
            have H5 := Lib.hid (And.intro o5 (And.intro p1 (And.intro p2 (And.intro hF2 (And.intro (show y < F + 16 by omega) (And.intro HBN.out (And.intro r1 (And.intro (And.intro r2 r3) r4))))))))
            have hc6 := o5.o.c6.cell
            simp only [frame1]
            clear o5 p1 p2 hF2 r1 r2 r3 r4 r5 r6 hadm hy hb5 t1 t2 t3 t4
            gi_wp2_with fail
            refine wpIn_region_round (by kernel_rfl) (by kernel_rfl) (fun X => X.cell? ⟨b3 + 1 + 1 + 1 + 1, 0, none⟩ = some (onV b3)) ?_
            have hHeld : (fun X : World => X.cell? ⟨b3 + 1 + 1 + 1 + 1, 0, none⟩ = some (onV b3)) W5.drew := hc6
            refine wpAnyH_take (i := 0) (v := ?v0_1) rfl (by kernel_rfl) (by kernel_rfl) (by kernel_rfl) (fun _ _ _ h => h) (Or.inl ⟨by rfl, ?y0_1⟩) (by assumption) ?r0_1
            case y0_1 => ((try simp only [List.getElem_toArray, List.getElem_cons_succ, List.getElem_cons_zero]); intro w hSw; (try dsimp only at hSw); go_simp; first | done | with_reducible rfl)
            (try simp only [Act.put, List.getElem_toArray, List.getElem_cons_succ, List.getElem_cons_zero, List.setIfInBounds_toArray, List.set_cons_zero, List.set_cons_succ])
            refine wpAnyH_take (i := 1) (v := ?v1_2) rfl (by kernel_rfl) (by kernel_rfl) (by kernel_rfl) (fun _ _ _ h => h) (Or.inl ⟨by rfl, ?y1_2⟩) (by assumption) ?r1_2
            case y1_2 => ((try simp only [List.getElem_toArray, List.getElem_cons_succ, List.getElem_cons_zero]); intro w hSw; (try dsimp only at hSw); go_simp; first | done | with_reducible rfl)
            (try simp only [Act.put, List.getElem_toArray, List.getElem_cons_succ, List.getElem_cons_zero, List.setIfInBounds_toArray, List.set_cons_zero, List.set_cons_succ])
            refine wpAnyH_take (i := 2) (v := ?v2_3) rfl (by kernel_rfl) (by kernel_rfl) (by kernel_rfl) (fun _ _ _ h => h) (Or.inl ⟨by rfl, ?y2_3⟩) (by assumption) ?r2_3
            case y2_3 => ((try simp only [List.getElem_toArray, List.getElem_cons_succ, List.getElem_cons_zero]); intro w hSw; (try dsimp only at hSw); go_simp; first | done | with_reducible rfl)
            (try simp only [Act.put, List.getElem_toArray, List.getElem_cons_succ, List.getElem_cons_zero, List.setIfInBounds_toArray, List.set_cons_zero, List.set_cons_succ])
            refine wpAnyH_ready (rs := [3]) (by kernel_rfl) (by simp) ?_
            refine AllReadyH.cons (o := _) rfl (fun K hK => ?_) AllReadyH.nil
            go_simp
            refine (payload_any y (by have := HY.out; omega) _).mono ?_
            rintro e W6 ⟨pv, rfl, ho6, hs6⟩
            obtain ⟨q6, n6, p6, rfl⟩ := ho6.slice'
            have hs6' : Step [] W5 W6 := step_draw hs6
            have hlen6 : n6 = (payN y).length := by
              obtain ⟨q', c', h7, _⟩ := ho6.form
              injection h7 with e1 e2 e3
              rw [e2, u8s_length]
            have c6' := step_cell hs6' hc6
            have h6 := H5.out.1.same hs6'
            have HO := Lib.hid (on_any wz b3 (b3 + 1) (b3 + 1 + 1 + 1) bi bm (b3 + 1 + 1) F2 M2 f2 P2 y HY.out q6 n6 p6 (payN y) hlen6 (by rw [payN_len]; omega) W6 h6.o.o ho6.reads (fun _ => rfl))
            have H6 := Lib.hid (And.intro h6 hs6')
            clear ho6 hs6 hs6' h6 hlen6
            (try go_wp2_with fail)
            refine hK.out _ _ c6' (fun hHeld => ?_)
            clear hK K
            (try simp only [Act.put, List.getElem_toArray, List.getElem_cons_succ, List.getElem_cons_zero, List.setIfInBounds_toArray, List.set_cons_zero, List.set_cons_succ])
            refine wpAnyH_ready (rs := [4]) (by kernel_rfl) (by simp) ?_
            refine AllReadyH.cons (o := _) rfl (fun K hK => ?_) AllReadyH.nil
            go_simp
            refine HO.out.mono ?_
            rintro e W7 ⟨rfl, F3, M3, f3, P3, h7, hs7, hP3⟩
            have h7t := H6.out.1.turn hs7 h7
            have c67 := h7t.o.c6.cell
            have H7 := Lib.hid (And.intro h7t (And.intro hs7 hP3))
            clear h7 hs7 hP3 h7t
            (try go_wp2_with fail)
            refine hK.out _ _ c67 (fun hHeld => ?_)
            clear hK K
            (try simp only [Act.put, List.getElem_toArray, List.getElem_cons_succ, List.getElem_cons_zero, List.setIfInBounds_toArray, List.set_cons_zero, List.set_cons_succ])
            refine wpAnyH_take (i := 5) (v := ?v5_4) rfl (by kernel_rfl) (by kernel_rfl) (by kernel_rfl) (fun _ _ _ h => h) (Or.inl ⟨by rfl, ?y5_4⟩) (by assumption) ?r5_4
            case y5_4 => ((try simp only [List.getElem_toArray, List.getElem_cons_succ, List.getElem_cons_zero]); intro w hSw; (try dsimp only at hSw); go_simp; first | done | with_reducible rfl)
            (try simp only [Act.put, List.getElem_toArray, List.getElem_cons_succ, List.getElem_cons_zero, List.setIfInBounds_toArray, List.set_cons_zero, List.set_cons_succ])
            refine wpAnyH_done (by kernel_rfl) ?_ _
            (try simp only [Plainly])
            gi_wp2_with fail
            exact miss_step H5.out H6.out.2 H7.out
          case stop2 =>
            rintro D c pre W hD h hd
            exact h.elim
          case done2 =>
            rintro D2 ys W4 hD2 rfl ⟨⟨F2, M2, f2, P2, o5, p1, p2, hF2⟩, _⟩ hd2
            have hm5 := (o5.marks (by omega) hd2 (fun hm => by have := hDs D2 hm; omega)).m
            have hF3 : min (r + 1) 40 ≤ F2 := by
              have h2 := HRR.out
              by_cases hF : F < 40
              · have hm : F ∈ (List.range' F (T - F)).filter fun x => !decide (x ∈ told13 F f) := by
                  rw [List.mem_filter, List.mem_range'_1]
                  have hnot : F ∉ told13 F f := fun hc => by
                    obtain ⟨p, hp⟩ := Option.isSome_iff_exists.1 ((told13_mem HI.out.1.o.t.l (by omega) F).1 hc)
                    have := (HI.out.1.o.t.l.own F p hp).2.1
                    omega
                  have := HTT.out
                  refine ⟨by omega, by simpa using hnot⟩
                have hne : F2 ≠ F := fun e => floor_not o5.o.o.t (by rw [e]; exact p2 F hm)
                omega
              · omega
            have HE := Lib.hid (And.intro o5.o (And.intro hm5 (And.intro hF3 (show r + 1 ≤ 50 by have := HRR.out; omega))))
            clear o5 p1 p2 hF2 hm5 hF3 hd2 hb5 t1 t2 t3 t4
            gi_wp2_with fail
            refine ⟨OrdJ.intro (r + 1) (D2 :: D1 :: Ds) HE.out.2.2.2 HE.out.2.2.1 HE.out.1 HE.out.2.1 (by kernel_rfl) rfl, ?_⟩
            have := HRR.out
            simp [intOf]
            omega
      · have hr : r = 50 := by omega
        subst hr
        have sl : ((50 : Int) < 50) = False := by simp
        have hF : F = 40 := by omega
        subst hF
        have h13 : told13 40 f = [] := by
          refine List.eq_nil_iff_forall_not_mem.2 fun k hk => ?_
          obtain ⟨p, hp⟩ := Option.isSome_iff_exists.1 ((told13_mem hI.o.t.l (by omega) k).1 hk)
          have := hI.o.t.l.own k p hp
          omega
        have hM0 : M.length = 0 := by rw [hI.o.t.waits (by omega), h13]; rfl
        have hS0 : sumK f (M.map Prod.fst) = 0 := by rw [hI.o.t.bytes (by omega), h13]; rfl
        have c4 : W.cell? ⟨b3 + 1, 0, none⟩ = some (.int .u32 40) := hI.o.c4.cell
        have HW0 := waits7_any wz.heap.size bi bm 40 M f W hI.o.t.i
        rw [hM0] at HW0
        have HW := Lib.hid (show Calls Try.prog 65 #[.pointer (some ⟨bi, 0, none⟩)] W fun e w' => e = .returned (.int .i64 0) ∧ W = w' from HW0.mono fun e w' h => ⟨h.1, h.2.symm⟩)
        have HB0 := bytes7_any wz.heap.size bi bm 40 M f W hI.o.t.i (by rw [hS0]; omega)
        rw [hS0] at HB0
        have HB := Lib.hid (show Calls Try.prog 66 #[.pointer (some ⟨bi, 0, none⟩)] W fun e w' => e = .returned (.int .i64 0) ∧ Step [] W w' from HB0)
        have HE := Lib.hid (And.intro hI hM)
        clear hI hM h13 hM0 hS0 hF40 hr50 hrF hlt HW0 HB0
        gi_wp2_with (first
          | (gi_at_call 65; refine (inW HW.out).mono ?_; rintro e w' ⟨rfl, rfl⟩)
          | (gi_at_call 66; refine (inW HB.out).mono ?_; rintro e w8 ⟨rfl, hs8⟩; have H8 := Lib.hid hs8; clear hs8)
          | (gi_at_call 69; refine (inW (wakes7_any _)).mono ?_; rintro e w9 ⟨rfl, hs9⟩; have hb9 : Boxed w9 b2 4 (.bool false) := boxed_step (boxed_step HZ.out.2 HE.out.1.o.t.st (by simp)) (H8.out.trans hs9) (by simp); have cb9 := hb9.cell; have fb9 := hb9.frozen; have H9 := Lib.hid (And.intro hb9 (H8.out.trans hs9)); clear hb9 hs9)
          | fail)
        have hset : Step [b2] w9 (w9.setCell ⟨b2, 0, none⟩ (.bool true)) := Step.setObj H9.out.1 rfl (by simp) _ _
        have hst : Step [] w (w9.setCell ⟨b2, 0, none⟩ (.bool true)) := (HZ.out.1.trans (HE.out.1.o.t.st.trans H9.out.2)).trans' hset (fun _ h _ => h) (fun i hi hlt => by simp at hi; have := HB2.out; omega)
        have hmk := (HE.out.2.same H9.out.2).same hset
        have hbz := HZ.out.1.size
        refine leaves_marksC (B := w.heap.size) Ds _ (fun w' hc => results_cell4 rfl _ w' b2 true rfl (boxed_calm (H9.out.1.set _) hc).cell) (fun D hD => ⟨by have := (hmk.1 D hD).1; omega, (hmk.1 D hD).2⟩) hmk.2 (fun w' hc => ⟨rfl, hst.calm hc (Nat.le_refl _)⟩)
end Go.Proofs.Ytbainekfbonbjaa
