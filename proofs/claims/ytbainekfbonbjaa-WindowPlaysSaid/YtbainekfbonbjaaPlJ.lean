/- WindowPlays: Due on both sides; bytes of one's own turned; what wakes. No statement is proved here; nothing is assumed. -/
import Derived.Test.YtbainekfbonbjaaWinI
import Derived.Deep.RegionHeld3
import Derived.Deep.CutRange
import Derived.Deep.CutBlock
import Derived.Test.YtbainekfbonbjaaWinP
import Derived.Test.YtbainekfbonbjaaSrtK
namespace Go.Proofs.Ytbainekfbonbjaa
open Go.RowKit Go.Shelf
set_option linter.unusedVariables false
set_option linter.unusedSimpArgs false

/-- A number and what is kept of it. -/
abbrev Rc := Nat × Rec6
def recOf (g : Kept6) (k : Nat) : Option Rc := (g k).map fun x => (k, x)
def recsL (g : Kept6) (l : List Nat) : List Rc := l.filterMap (recOf g)
/-- What is kept, in the order of the numbers. -/
def recs (g : Kept6) (u : Nat) : List Rc := recsL g (List.range u)
theorem keysG_rec (g : Kept6) : ∀ l : List Nat, recsL g (l.filter fun k => (g k).isSome) = recsL g l
  | [] => rfl
  | k :: t => by
    have ih := keysG_rec g t
    unfold recsL at ih ⊢
    rw [List.filter_cons]
    cases e : g k with
    | none =>
      simp only [Option.isSome_none, Bool.false_eq_true, if_false]
      rw [List.filterMap_cons, show recOf g k = none by unfold recOf; rw [e]; rfl]
      exact ih
    | some x =>
      simp only [Option.isSome_some, if_true]
      rw [List.filterMap_cons, List.filterMap_cons, show recOf g k = some (k, x) by unfold recOf; rw [e]; rfl]
      simp only
      rw [ih]
theorem recs_keys (g : Kept6) (u : Nat) : recsL g (keysG g u) = recs g u := keysG_rec g _
theorem recsL_fst (g : Kept6) : ∀ l : List Nat, (recsL g l).map Prod.fst = l.filter fun k => (g k).isSome
  | [] => rfl
  | k :: t => by
    have ih := recsL_fst g t
    unfold recsL at ih ⊢
    rw [List.filter_cons, List.filterMap_cons]
    cases e : g k with
    | none =>
      rw [show recOf g k = none by unfold recOf; rw [e]; rfl]
      simpa using ih
    | some x =>
      rw [show recOf g k = some (k, x) by unfold recOf; rw [e]; rfl]
      simp [ih]
theorem recs_fst (g : Kept6) (u : Nat) : (recs g u).map Prod.fst = keysG g u := recsL_fst g _
theorem recs_len (g : Kept6) (u : Nat) : (recs g u).length = (keysG g u).length := by rw [← recs_fst, List.length_map]
theorem mem_recs {g : Kept6} {u k : Nat} {x : Rec6} : (k, x) ∈ recs g u ↔ k < u ∧ g k = some x := by
  unfold recs recsL recOf
  rw [List.mem_filterMap]
  constructor
  · rintro ⟨j, hj, h⟩
    rw [List.mem_range] at hj
    cases e : g j with
    | none => rw [e] at h; cases h
    | some y => rw [e] at h; cases h; exact ⟨hj, e⟩
  · rintro ⟨hk, h⟩
    exact ⟨k, List.mem_range.2 hk, by rw [h]; rfl⟩
theorem recsL_congr {g g' : Kept6} : ∀ {l : List Nat}, (∀ k ∈ l, g k = g' k) → recsL g l = recsL g' l
  | [], _ => rfl
  | k :: t, h => by
    have ih := recsL_congr (g := g) (g' := g') (l := t) (fun j hj => h j (by simp [hj]))
    unfold recsL at ih ⊢
    rw [List.filterMap_cons, List.filterMap_cons, ih, show recOf g k = recOf g' k by unfold recOf; rw [h k (by simp)]]
theorem recs_put (g : Kept6) (u : Nat) (x : Rec6) : recs (setG g u (some x)) (u + 1) = recs g u ++ [(u, x)] := by
  unfold recs
  rw [List.range_succ, recsL, List.filterMap_append]
  congr 1
  · exact recsL_congr fun k hk => setG_other _ _ (by have := List.mem_range.1 hk; omega)
  · show List.filterMap _ [u] = _
    rw [List.filterMap_cons, show recOf (setG g u (some x)) u = some (u, x) by unfold recOf; rw [setG_same]; rfl]
    rfl
theorem recs_none (u : Nat) : recs (fun _ => none) u = [] := by
  have := recs_fst (fun _ => none) u
  have h2 : keysG (fun _ => none) u = [] := by unfold keysG; rw [List.filter_eq_nil_iff]; simp
  rw [h2] at this
  exact List.map_eq_nil_iff.1 this
/-- What Due makes of a record. -/
def dueRec (a z now : Nat) (q : Rc) : Rc := (q.1, dueX a z now q.2)
def dueTell (now : Nat) (q : Rc) : Option Out6 := if q.2.2.2 ≤ now then some (q.1, q.2.1, q.2.2.1 + 1) else none
theorem recs_due (a z now : Nat) (g : Kept6) (u : Nat) : recs (dueG a z now g) u = (recs g u).map (dueRec a z now) := by
  unfold recs
  generalize List.range u = l
  induction l with
  | nil => rfl
  | cons k t ih =>
    unfold recsL at ih ⊢
    rw [List.filterMap_cons, List.filterMap_cons]
    cases e : g k with
    | none =>
      rw [show recOf g k = none by unfold recOf; rw [e]; rfl, show recOf (dueG a z now g) k = none by unfold recOf dueG; rw [e]; rfl]
      exact ih
    | some x =>
      rw [show recOf g k = some (k, x) by unfold recOf; rw [e]; rfl, show recOf (dueG a z now g) k = some (k, dueX a z now x) by unfold recOf dueG; rw [e]; rfl]
      simp only [List.map_cons]
      rw [ih]
      rfl
theorem dueL_recs (now : Nat) (g : Kept6) (u : Nat) : dueL now g u = (recs g u).filterMap (dueTell now) := by
  rw [← recs_keys]
  unfold dueL
  generalize keysG g u = l
  induction l with
  | nil => rfl
  | cons k t ih =>
    unfold dueOf recsL at ih ⊢
    rw [List.filterMap_cons, List.filterMap_cons]
    cases e : g k with
    | none =>
      rw [show recOf g k = none by unfold recOf; rw [e]; rfl, show dueOne now g k = none by unfold dueOne; rw [e]]
      exact ih
    | some x =>
      rw [show recOf g k = some (k, x) by unfold recOf; rw [e]; rfl, show dueOne now g k = dueTell now (k, x) by unfold dueOne dueTell; rw [e]]
      simp only
      rw [List.filterMap_cons, ih]
/-- Whether Ack takes a record. -/
def ackHit (ack mask : Nat) (q : Rc) : Bool := decide (q.1 < ack) || decide (q.1 ∈ toldL ack mask)
theorem recs_ack (ack mask : Nat) (g : Kept6) (u : Nat) : recs (ackG ack mask g) u = (recs g u).filter fun q => !ackHit ack mask q := by
  unfold recs
  generalize List.range u = l
  induction l with
  | nil => rfl
  | cons k t ih =>
    unfold recsL at ih ⊢
    rw [List.filterMap_cons, List.filterMap_cons]
    cases e : g k with
    | none =>
      rw [show recOf g k = none by unfold recOf; rw [e]; rfl, show recOf (ackG ack mask g) k = none by unfold recOf ackG; rw [e]; simp]
      exact ih
    | some x =>
      rw [show recOf g k = some (k, x) by unfold recOf; rw [e]; rfl]
      simp only
      by_cases hh : k < ack ∨ k ∈ toldL ack mask
      · rw [show recOf (ackG ack mask g) k = none by unfold recOf ackG; rw [if_pos hh]; rfl, List.filter_cons_of_neg (by unfold ackHit; rcases hh with h | h <;> simp [h])]
        exact ih
      · rw [show recOf (ackG ack mask g) k = some (k, x) by unfold recOf ackG; rw [if_neg hh, e]; rfl, List.filter_cons_of_pos (by unfold ackHit; have h1 : ¬ k < ack := fun h => hh (.inl h); have h2 : k ∉ toldL ack mask := fun h => hh (.inr h); simp [h2]; omega)]
        simp only
        rw [ih]
/-- The first of the times. -/
theorem minR {g : Kept6} {u t : Nat} (hu : ∀ k x, g k = some x → k < u) (h1 : ∃ q ∈ recs g u, q.2.2.2 = t) (h2 : ∀ q ∈ recs g u, t ≤ q.2.2.2) : MinAt g t := by
  obtain ⟨⟨k, x⟩, hq, e⟩ := h1
  exact ⟨⟨k, x, (mem_recs.1 hq).2, e⟩, fun k x hx => h2 (k, x) (mem_recs.2 ⟨hu k x hx, hx⟩)⟩
def bytesR (R : List Rc) : Nat := (R.map fun q => q.2.1.length).sum
theorem sumG_recs (g : Kept6) (u : Nat) : sumG g (keysG g u) = bytesR (recs g u) := by
  rw [← recs_keys]
  have hm : ∀ k ∈ keysG g u, (g k).isSome = true := fun k hk => (mem_keysG.1 hk).2
  revert hm
  generalize keysG g u = l
  induction l with
  | nil => intro _; rfl
  | cons k t ih =>
    intro hm
    have ih' := ih (fun j hj => hm j (by simp [hj]))
    obtain ⟨x, hx⟩ := Option.isSome_iff_exists.1 (hm k (by simp))
    unfold sumG bytesR recsL at ih' ⊢
    rw [List.filterMap_cons, show recOf g k = some (k, x) by unfold recOf; rw [hx]; rfl]
    simp only [List.map_cons, List.sum_cons]
    rw [ih', show lenG g k = x.1.length by unfold lenG; rw [hx]; rfl]
end Go.Proofs.Ytbainekfbonbjaa
namespace Go.Proofs.Ytbainekfbonbjaa
open Go.RowKit Go.Shelf
set_option linter.unusedVariables false
set_option linter.unusedSimpArgs false
attribute [local go_sem] Oper.semAt_some

/-- An item's cells: number, payload, tries, time. -/
abbrev En4 := Nat × Value × Nat × Nat
def cells4 (E : List En4) : List Value := E.flatMap fun q => [.int .u32 (q.1 : Int), q.2.1, .int .i64 (q.2.2.1 : Int), .int .i64 (q.2.2.2 : Int)]
theorem cells4_len (E : List En4) : (cells4 E).length = E.length * 4 := by
  induction E with
  | nil => rfl
  | cons q t ih => simp [cells4] at ih ⊢; omega
theorem cells4_snoc (E : List En4) (q : En4) : cells4 (E ++ [q]) = cells4 E ++ [.int .u32 (q.1 : Int), q.2.1, .int .i64 (q.2.2.1 : Int), .int .i64 (q.2.2.2 : Int)] := by simp [cells4]
theorem cells4_at : ∀ (E : List En4) (j : Nat) e, E[j]? = some e → (cells4 E)[j * 4]? = some (.int .u32 (e.1 : Int)) ∧ (cells4 E)[j * 4 + 1]? = some e.2.1 ∧ (cells4 E)[j * 4 + 2]? = some (.int .i64 (e.2.2.1 : Int)) ∧ (cells4 E)[j * 4 + 3]? = some (.int .i64 (e.2.2.2 : Int))
  | [], j, e, h => by simp at h
  | p :: t, 0, e, h => by
    simp at h
    subst h
    exact ⟨rfl, rfl, rfl, rfl⟩
  | p :: t, j + 1, e, h => by
    have ih := cells4_at t j e (by simpa using h)
    have e1 : cells4 (p :: t) = .int .u32 (p.1 : Int) :: p.2.1 :: .int .i64 (p.2.2.1 : Int) :: .int .i64 (p.2.2.2 : Int) :: cells4 t := rfl
    rw [e1, show (j + 1) * 4 = j * 4 + 1 + 1 + 1 + 1 by omega]
    refine ⟨ih.1, ?_, ?_, ?_⟩
    · rw [show j * 4 + 1 + 1 + 1 + 1 + 1 = (j * 4 + 1) + 1 + 1 + 1 + 1 by omega]; exact ih.2.1
    · rw [show j * 4 + 1 + 1 + 1 + 1 + 2 = (j * 4 + 2) + 1 + 1 + 1 + 1 by omega]; exact ih.2.2.1
    · rw [show j * 4 + 1 + 1 + 1 + 1 + 3 = (j * 4 + 3) + 1 + 1 + 1 + 1 by omega]; exact ih.2.2.2
/-- Items that say what the records say. -/
structure RowR (B : Nat) (W : World) (E : List En4) (R : List Rc) : Prop where
  len : E.length = R.length
  at_ : ∀ (i : Nat) e q, E[i]? = some e → R[i]? = some q → e.1 = q.1 ∧ e.2.2.1 = q.2.2.1 ∧ e.2.2.2 = q.2.2.2 ∧ PayAt B W e.2.1 q.2.1
/-- The reference's window. -/
structure RefW (B : Nat) (W : World) (br rs u lim a z : Nat) (sv : Value) (E : List En4) (R : List Rc) : Prop where
  o : W.heap[br]? = some (.cells #[.pointer (some ⟨rs, 0, none⟩), .int .i64 (a : Int), .int .i64 (z : Int), sv] 89)
  s : RefSpaceAt W rs u lim
  lo : B ≤ br ∧ B ≤ rs
  row : W.ownsRow B 83 4 sv E.length (cells4 E)
  r : RowR B W E R
section
variable {B : Nat} {W W' : World} {br rs u lim a z : Nat} {sv : Value} {E : List En4} {R : List Rc} {S : List Nat}
theorem RowR.step (h : RowR B W E R) (hs : Step S W W') (hS : ∀ i ∈ S, ∀ cur, W.heap[i]? ≠ some (.cells cur 5 (0, 0))) : RowR B W' E R :=
  ⟨h.len, fun i e q he hq => by
    obtain ⟨h1, h2, h3, h4⟩ := h.at_ i e q he hq
    exact ⟨h1, h2, h3, h4.1.apart6 hs hS, h4.2⟩⟩
theorem RefW.step (h : RefW B W br rs u lim a z sv E R) (hs : Step S W W') (hS : ∀ i ∈ S, i ≠ br ∧ i ≠ rs ∧ (∀ cur, W.heap[i]? ≠ some (.cells cur 83 (0, 0))) ∧ ∀ cur, W.heap[i]? ≠ some (.cells cur 5 (0, 0))) : RefW B W' br rs u lim a z sv E R :=
  ⟨obj_step h.o hs (fun hm => (hS _ hm).1 rfl), obj_step h.s hs (fun hm => (hS _ hm).2.1 rfl), h.lo, row_step h.row hs (fun g hg hm => by
    obtain ⟨_, cur, hc⟩ := row_type h.row g (by simp [hg])
    exact (hS _ hm).2.2.1 cur hc), h.r.step hs fun i hi => (hS i hi).2.2.2⟩
theorem RefW.same (h : RefW B W br rs u lim a z sv E R) (hs : Step [] W W') : RefW B W' br rs u lim a z sv E R := h.step hs (by simp)
theorem RefW.cells (h : RefW B W br rs u lim a z sv E R) : W.cell? ⟨br, 0, none⟩ = some (.pointer (some ⟨rs, 0, none⟩)) ∧ W.cell? ⟨br, 1, none⟩ = some (.int .i64 (a : Int)) ∧ W.cell? ⟨br, 2, none⟩ = some (.int .i64 (z : Int)) ∧ W.cell? ⟨br, 3, none⟩ = some sv ∧ W.frozen? ⟨br, 3, none⟩ = false :=
  ⟨cells_cell h.o rfl, cells_cell h.o rfl, cells_cell h.o rfl, cells_cell h.o rfl, cells_frozen h.o⟩
theorem RefW.form (h : RefW B W br rs u lim a z sv E R) : ∃ q c, sv = .slice q E.length c ∧ E.length ≤ c ∧ c ≤ maxLen := by
  rcases h.row.2 with ⟨h1, h2⟩ | ⟨g, cap, cur, h1, _, _, h3, h4, _⟩
  · exact ⟨none, 0, by rw [h1, h2], by omega, by simp [maxLen]⟩
  · exact ⟨_, cap, h1, h3, h4⟩
/-- One of its items. -/
theorem row4_at {q : Option Addr} {n c i : Nat} {e : En4} (h : W.ownsRow B 83 4 (.slice q n c) n (cells4 E)) (he : E[i]? = some e) :
    ∃ g, q = some ⟨g, 0, none⟩ ∧ W.cell? ⟨g, i * 4, none⟩ = some (.int .u32 (e.1 : Int)) ∧ W.cell? ⟨g, i * 4 + 1, none⟩ = some e.2.1 ∧ W.cell? ⟨g, i * 4 + 2, none⟩ = some (.int .i64 (e.2.2.1 : Int)) ∧ W.cell? ⟨g, i * 4 + 3, none⟩ = some (.int .i64 (e.2.2.2 : Int)) := by
  obtain ⟨k1, k2, k3, k4⟩ := cells4_at E i e he
  obtain ⟨g, cap, a1, _, _, a4, _⟩ := row_cell6 h k1
  obtain ⟨g2, cap2, b1, _, _, b4, _⟩ := row_cell6 h k2
  obtain ⟨g3, cap3, c1, _, _, c4, _⟩ := row_cell6 h k3
  obtain ⟨g4, cap4, d1, _, _, d4, _⟩ := row_cell6 h k4
  injection a1 with a1 _ _
  subst a1
  injection b1 with b1 _ _
  injection b1 with b1
  injection b1 with b1
  injection c1 with c1 _ _
  injection c1 with c1
  injection c1 with c1
  injection d1 with d1 _ _
  injection d1 with d1
  injection d1 with d1
  subst b1
  subst c1
  subst d1
  exact ⟨g, rfl, a4, b4, c4, d4⟩
/-- An item and its record. -/
theorem RefW.item (h : RefW B W br rs u lim a z sv E R) {i : Nat} (hi : i < E.length) : ∃ e q, E[i]? = some e ∧ R[i]? = some q ∧ e.1 = q.1 ∧ e.2.2.1 = q.2.2.1 ∧ e.2.2.2 = q.2.2.2 ∧ PayAt B W e.2.1 q.2.1 := by
  obtain ⟨e, he⟩ : ∃ e, E[i]? = some e := ⟨_, List.getElem?_eq_getElem hi⟩
  obtain ⟨q, hq⟩ : ∃ q, R[i]? = some q := ⟨_, List.getElem?_eq_getElem (by have := h.r.len; omega)⟩
  exact ⟨e, q, he, hq, h.r.at_ i e q he hq⟩
end
section
variable (lim : Nat) (a z : Int) (w : World)
theorem refWNew_bad (hb : (lim < 1 ∨ 2147483648 < lim) ∨ a < 1 ∨ z < a ∨ 1099511627776 < z) :
    Calls Try.prog 44 #[.int .u32 (lim : Int), .int .i64 a, .int .i64 z] w fun e w' => e = .returned (.tuple #[.pointer none, .int .i64 1]) ∧ Step [] w w' := by
  by_cases hl : lim < 1 ∨ 2147483648 < lim
  · have HS := Lib.hid (refNew_bad lim hl w)
    clear hb hl
    go_enter Try.func44, Try.ntmps44
    go_wp2_with (go_at_call 38; refine HS.out.mono ?_; rintro e w' ⟨rfl, rfl⟩)
    go_ret2
    exact ⟨rfl, Step.refl _ _⟩
  · have HS := Lib.hid (refNew_ok lim (by omega) (by omega) w)
    have hst : Step [] w (w.alloc (spaceObj 60 0 lim)) := Step.alloc _ _
    have HH := Lib.hid hst
    clear hst
    by_cases h1 : a < 1
    · clear hb hl
      have s1 : (a < 1) = True := by simp; omega
      go_enter Try.func44, Try.ntmps44
      go_wp2_with (go_at_call 38; refine HS.out.mono ?_; rintro e w' ⟨rfl, rfl⟩)
      go_ret2
      exact ⟨rfl, HH.out⟩
    · by_cases h2 : z < a
      · clear hb hl
        have s1 : (a < 1) = False := by simp; omega
        have s2 : (z < a) = True := by simp; omega
        go_enter Try.func44, Try.ntmps44
        go_wp2_with (go_at_call 38; refine HS.out.mono ?_; rintro e w' ⟨rfl, rfl⟩)
        go_ret2
        exact ⟨rfl, HH.out⟩
      · have h3 : 1099511627776 < z := by omega
        clear hb hl
        have s1 : (a < 1) = False := by simp; omega
        have s2 : (z < a) = False := by simp; omega
        have s3 : (1099511627776 < z) = True := by simp; omega
        go_enter Try.func44, Try.ntmps44
        go_wp2_with (go_at_call 38; refine HS.out.mono ?_; rintro e w' ⟨rfl, rfl⟩)
        go_ret2
        exact ⟨rfl, HH.out⟩
end
theorem refWNew_ok (lim a z : Nat) (hl : 1 ≤ lim ∧ lim ≤ 2147483648) (ha : 1 ≤ a ∧ a ≤ z ∧ z ≤ 1099511627776) (w : World) :
    Calls Try.prog 44 #[.int .u32 (lim : Int), .int .i64 (a : Int), .int .i64 (z : Int)] w fun e w' => ∃ br rs, e = .returned (.tuple #[.pointer (some ⟨br, 0, none⟩), .int .i64 0]) ∧ RefW w.heap.size w' br rs 0 lim a z (.slice none 0 0) [] [] ∧ Step [] w w' := by
  have HS := Lib.hid (refNew_ok lim hl.1 hl.2 w)
  have s1 : ((a : Int) < 1) = False := by simp; omega
  have s2 : ((z : Int) < (a : Int)) = False := by simp; omega
  have s3 : (1099511627776 < (z : Int)) = False := by simp; omega
  have hz2 : (z : Int) ≤ 1099511627776 := by omega
  clear hl ha
  go_enter Try.func44, Try.ntmps44
  go_wp2_with (go_at_call 38; refine HS.out.mono ?_; rintro e w' ⟨rfl, rfl⟩)
  go_ret2
  have hs : Step [] (w.alloc (spaceObj 60 0 lim)) ((w.alloc (spaceObj 60 0 lim)).alloc (.cells #[.pointer (some ⟨w.heap.size, 0, none⟩), .int .i64 (a : Int), .int .i64 (z : Int), .slice none 0 0] 89)) := Step.alloc _ _
  refine ⟨_, w.heap.size, rfl, ⟨by rw [heap_alloc_get, if_pos (by simp)], ?_, ⟨by simp, Nat.le_refl _⟩, World.ownsRow_nil _ _ _ _, ⟨rfl, by simp⟩⟩, (Step.alloc _ _).trans hs⟩
  exact obj_step (show (w.alloc (spaceObj 60 0 lim)).heap[w.heap.size]? = some (spaceObj 60 0 lim) by rw [heap_alloc_get, if_pos rfl]) hs (by simp)
end Go.Proofs.Ytbainekfbonbjaa
namespace Go.Proofs.Ytbainekfbonbjaa
open Go.RowKit Go.Shelf
set_option linter.unusedVariables false
set_option linter.unusedSimpArgs false
attribute [local go_sem] Oper.semAt_some

theorem bytesR_snoc (R : List Rc) (q : Rc) : bytesR (R ++ [q]) = bytesR R + q.2.1.length := by simp [bytesR]
theorem takeR {α : Type} {ys : List α} {j : Nat} {k : α} (h : ys[j]? = some k) : ys.take (j + 1) = ys.take j ++ [k] := by
  rw [List.take_add_one, h]; rfl
section
variable {B : Nat} {w : World} {br rs u lim a z : Nat} {sv : Value} {E : List En4} {R : List Rc}
set_option maxRecDepth 100000 in
set_option maxHeartbeats 2000000 in
theorem refWBytes (h : RefW B w br rs u lim a z sv E R) (hR : E.length ≤ 1000) : Calls Try.prog 59 #[.pointer (some ⟨br, 0, none⟩)] w fun e w' => e = .returned (.int .i64 (bytesR R : Int)) ∧ w' = w := by
  obtain ⟨ao, cap, rfl, hcap, hcm⟩ := h.form
  obtain ⟨c0, c1, c2, c3, _⟩ := h.cells
  obtain ⟨L, hL⟩ : ∃ L, L = E.length := ⟨_, rfl⟩
  have hrow := h.row
  rw [← hL] at c3 hcap hR hrow
  have H := Lib.hid (And.intro h (And.intro hL hrow))
  have hcm2 : cap ≤ 9223372036854775807 := by unfold maxLen at hcm; omega
  clear hL hcm h hrow
  go_enter Try.func59, Try.ntmps59
  go_wp2_with fail
  go_loopw [3, 4] (fun s i wr => ∃ j a : Nat, j ≤ L ∧ i = .int .i64 (j : Int) ∧ s = .int .i64 (a : Int) ∧ w = wr ∧ a ≤ 256 * j ∧ Hid (a = bytesR (R.take j))) (fun s i wr => L - (intOf i).toNat)
  case atStart => exact ⟨0, 0, by omega, rfl, rfl, rfl, by omega, rfl⟩
  case round =>
    obtain ⟨j, a, hj, rfl, rfl, rfl, hab, hI⟩ := hrel
    by_cases hlt : j < L
    · have s1 : ((j : Int) < (L : Int)) = True := by simp; omega
      obtain ⟨e, q, he, hq, e1, e2, e3, e4⟩ := H.out.1.item (i := j) (by have := H.out.2.1; omega)
      obtain ⟨g, rfl, x0, x1, x2, x3⟩ := row4_at H.out.2.2 he
      obtain ⟨pq, pc, hpv, hpc, _⟩ := e4.1.form
      rw [u8s_length] at hpv hpc
      have hp256 := e4.2.1
      obtain ⟨pl, hpl⟩ : ∃ pl, pl = q.2.1.length := ⟨_, rfl⟩
      rw [← hpl] at hpv hpc hp256
      rw [hpv] at x1
      have hw3 : IntKind.i64.wrap ((a : Int) + (pl : Int)) = ((a : Int) + (pl : Int)) := by rw [IntKind.wrap_i64]; omega
      have HS := Lib.hid (show a + pl = bytesR (R.take (j + 1)) by rw [takeR hq, bytesR_snoc, ← hI.out, hpl])
      have hab2 : a + pl ≤ 256 * (j + 1) := by omega
      clear he hq e1 e2 e3 e4 hpv hpl hI hpc hp256 hab
      go_wp2_with fail
      go_roundw
      case rel => exact ⟨j + 1, a + pl, by omega, by go_num, by go_num, trivial, hab2, HS.out⟩
      case measure => simp [intOf]; omega
    · obtain rfl : j = L := by omega
      clear hlt hj
      have HS := Lib.hid (show a = bytesR R by rw [hI.out, List.take_of_length_le (by have := H.out.2.1; have := H.out.1.r.len; omega)])
      clear hI hab
      go_wp2_with fail
      go_ret
      exact ⟨by rw [← HS.out]; rfl, rfl⟩
set_option maxRecDepth 100000 in
theorem refWWakes_none (h : RefW B w br rs u lim a z sv E R) (hR : E.length = 0) : Calls Try.prog 56 #[.pointer (some ⟨br, 0, none⟩)] w fun e w' => e = .returned (.tuple #[.int .i64 0, .bool false]) ∧ w' = w := by
  obtain ⟨ao, cap, rfl, hcap, hcm⟩ := h.form
  obtain ⟨c0, c1, c2, c3, _⟩ := h.cells
  rw [hR] at c3
  clear h hR hcap hcm
  go_enter Try.func56, Try.ntmps56
  go_wp2_with fail
  go_ret2
  exact ⟨rfl, rfl⟩
set_option maxRecDepth 100000 in
set_option maxHeartbeats 2000000 in
theorem refWWakes_some (h : RefW B w br rs u lim a z sv E R) (hR : E.length ≤ 1000) (h0 : E.length ≠ 0) : Calls Try.prog 56 #[.pointer (some ⟨br, 0, none⟩)] w fun e w' => ∃ t : Nat, e = .returned (.tuple #[.int .i64 (t : Int), .bool true]) ∧ (∃ q ∈ R, q.2.2.2 = t) ∧ (∀ q ∈ R, t ≤ q.2.2.2) ∧ w' = w := by
  obtain ⟨ao, cap, rfl, hcap, hcm⟩ := h.form
  obtain ⟨c0, c1, c2, c3, _⟩ := h.cells
  obtain ⟨L, hL⟩ : ∃ L, L = E.length := ⟨_, rfl⟩
  have hrow := h.row
  rw [← hL] at c3 hcap hR hrow h0
  obtain ⟨e, q, he, hq, e1, e2, e3, e4⟩ := h.item (i := 0) (by omega)
  obtain ⟨g, rfl, x0, x1, x2, x3⟩ := row4_at hrow he
  simp only [Nat.zero_mul, Nat.zero_add] at x0 x1 x2 x3
  have H := Lib.hid (And.intro h (And.intro hL hrow))
  have HQ := Lib.hid (And.intro hq e3)
  obtain ⟨t0, ht0⟩ : ∃ t0, t0 = e.2.2.2 := ⟨_, rfl⟩
  rw [← ht0] at x3 HQ
  have hcm2 : cap ≤ 9223372036854775807 := by unfold maxLen at hcm; omega
  have s0 : ((L : Int) == 0) = false := by simp; omega
  have hL0 : (0 : Int) < (L : Int) := by omega
  clear hL hcm h hrow he hq e1 e2 e3 e4 ht0 x0 x1 x2
  go_enter Try.func56, Try.ntmps56
  go_wp2_with fail
  clear s0
  go_loopw [4, 5] (fun f i wr => ∃ j t : Nat, j ≤ L ∧ 1 ≤ j ∧ i = .int .i64 (j : Int) ∧ f = .int .i64 (t : Int) ∧ w = wr ∧ Hid ((∃ q ∈ R.take j, q.2.2.2 = t) ∧ ∀ q ∈ R.take j, t ≤ q.2.2.2)) (fun s i wr => L - (intOf i).toNat)
  case atStart =>
    refine ⟨1, t0, by omega, by omega, rfl, rfl, rfl, ?_⟩
    have h1 : R.take 1 = [q] := by have := takeR HQ.out.1; simpa using this
    exact ⟨⟨q, by rw [h1]; simp, HQ.out.2.symm⟩, fun q' hq' => by rw [h1] at hq'; simp at hq'; rw [hq', HQ.out.2]; exact Nat.le_refl _⟩
  case round =>
    clear x3 hL0
    obtain ⟨j, t, hj, hj1, rfl, rfl, rfl, hI⟩ := hrel
    by_cases hlt : j < L
    · have s1 : ((j : Int) < (L : Int)) = True := by simp; omega
      obtain ⟨e, q2, he, hq, e1, e2, e3, e4⟩ := H.out.1.item (i := j) (by have := H.out.2.1; omega)
      obtain ⟨g', hg, x0, x1, x2, x3⟩ := row4_at H.out.2.2 he
      injection hg with hg
      injection hg with hg
      subst hg
      obtain ⟨t1, ht1⟩ : ∃ t1, t1 = e.2.2.2 := ⟨_, rfl⟩
      rw [← ht1] at x3 e3
      have HK := Lib.hid (And.intro hI.out (And.intro hq e3))
      clear hI he hq e1 e2 e3 e4 ht1 x0 x1 x2
      by_cases hlt2 : t1 < t
      · have s2 : ((t1 : Int) < (t : Int)) = True := by simp; omega
        go_wp2_with fail
        go_roundw
        case rel =>
          refine ⟨j + 1, t1, by omega, by omega, by go_num, rfl, trivial, ?_⟩
          rw [takeR HK.out.2.1]
          refine ⟨⟨q2, by simp, HK.out.2.2.symm⟩, fun q' hq' => ?_⟩
          rcases List.mem_append.1 hq' with h | h
          · have := HK.out.1.2 q' h; omega
          · simp at h; rw [h, HK.out.2.2]; exact Nat.le_refl _
        case measure => simp [intOf]; omega
      · have s2 : ((t1 : Int) < (t : Int)) = False := by simp; omega
        go_wp2_with fail
        go_roundw
        case rel =>
          refine ⟨j + 1, t, by omega, by omega, by go_num, rfl, trivial, ?_⟩
          rw [takeR HK.out.2.1]
          obtain ⟨⟨q', h1, h2⟩, h3⟩ := HK.out.1
          refine ⟨⟨q', by simp [h1], h2⟩, fun q'' hq'' => ?_⟩
          rcases List.mem_append.1 hq'' with h | h
          · exact h3 q'' h
          · simp at h; rw [h, ← HK.out.2.2]; omega
        case measure => simp [intOf]; omega
    · obtain rfl : j = L := by omega
      clear hlt hj
      go_wp2_with fail
      go_ret2
      have h1 : R.take j = R := List.take_of_length_le (by have := H.out.2.1; have := H.out.1.r.len; omega)
      have h2 := hI.out
      rw [h1] at h2
      exact ⟨t, rfl, h2.1, h2.2, rfl⟩
end
end Go.Proofs.Ytbainekfbonbjaa
namespace Go.Proofs.Ytbainekfbonbjaa
open Go.RowKit Go.Shelf
set_option linter.unusedVariables false
set_option linter.unusedSimpArgs false
attribute [local go_sem] Oper.semAt_some

set_option maxRecDepth 100000 in
theorem append_nilsP (W : World) : (Builtin.append_ #[71, 71] 71 #[.slice none 0 0, .slice none 0 0]).run Try.prog W = .ok (.slice none 0 0) W := by kernel_rfl
theorem append_nilP (W : World) (q : Option Addr) (len cap : Nat) (vals : List Value) (hr : Reads W (.slice q len cap) vals) (h1c : ∀ u ∈ vals, u.oneCell' = true) (hl : vals.length < 1000000) :
    ∃ v' W', (Builtin.append_ #[71, 71] 71 #[.slice none 0 0, .slice q len cap]).run Try.prog W = .ok v' W' ∧ OwnAt W.heap.size W' 5 v' vals ∧ Step [] W W' := by
  obtain ⟨i0, hi, hz0, hz1, hz2⟩ := info_parts info5
  cases q with
  | none =>
    rcases hr with ⟨q', cap', h1, rfl, h2, _⟩ | ⟨b, off, cap', h1, _⟩
    · injection h1 with e1 e2 e3
      subst e1 e2 e3
      have := h2 rfl
      subst this
      exact ⟨_, W, append_nilsP W, ownAt_nil _ _ _, Step.refl _ _⟩
    · cases h1
  | some ad =>
    have hn : len = vals.length := by
      rcases hr with ⟨q, cap, h, rfl, _⟩ | ⟨b, off, cap, h, _⟩
      · cases h; rfl
      · cases h; rfl
    have hcells : ∀ (j : Nat) u, vals[j]? = some u → W.cell? (ad.add j) = some u := by
      intro j u hj
      rcases hr with ⟨q, cap, h, rfl, _⟩ | ⟨b, off, cap, h, _, _, hc⟩
      · simp at hj
      · cases h
        rw [add_plain', hc j (List.getElem?_eq_some_iff.1 hj).1, hj]
    subst hn
    obtain ⟨v', W', hrun, r1, r2, _⟩ := run_append_own (P := Try.prog) W W.heap.size 71 71 5 i0 (.int .u8 0) 1 1 Try.underlying71 hi hz0 hz1 hz2 rfl (by decide) (.slice none 0 0) 0 [] (World.ownsRow_nil W _ 5 1) ad vals.length cap vals (by omega) hcells h1c (by unfold maxLen; omega) (by omega) (Nat.le_refl _)
    refine ⟨v', W', hrun, .ofRow (by simpa using r1), Step.grown r2 (fun j hj => by cases hj)⟩
theorem appended_stepP {W w1 : World} {base : Nat} {e : TypeId} {size : Nat} {v : Value} {k : Nat} {xs : List Value} {tmp : Obj} (he : heldType e = false)
    (hrow : W.ownsRow base e size v k xs) (hgrow : (W.alloc tmp).grownBy w1 v.ownBlock) : Step v.ownBlock.toList W w1 :=
  (Step.alloc W tmp).trans (Step.grown hgrow (fun j ej => ⟨.inl (by simp [ej]), fun o ho => by
    rcases (hrow.alloc tmp).2 with ⟨rfl, _⟩ | ⟨g, cap, cur, rfl, _, hgb, _⟩
    · simp [Value.ownBlock] at ej
    · obtain rfl : g = j := by simpa [Value.ownBlock] using ej
      rw [hgb] at ho; cases ho; exact he⟩))
theorem wpList_append_runP {P : Program} {w w' : World} {v' : Value} {ops : Array Oper} {rest : List Oper} {o : Oper} {a : Act} {Q : Exit → Act → World → Prop} (hgd : o.guard = none) (s x : Operand) (t : TypeId)
    (ho : o.op = .call { callee := .builtin .append, args := #[s, x], argTypes := #[t, t] }) (vs vx : Value) (hs : a.eval s = vs) (hx : a.eval x = vx)
    (hr : (Builtin.append_ #[t, t] o.type #[vs, vx]).run P w = .ok v' w') (h : wpList P ops Q rest (a.put o.dst v') w') : wpList P ops Q (o :: rest) a w := by
  refine wpList_plain hgd fun K hK => ?_
  unfold Oper.wp execOp
  simp only [ho, resolve, invoke, builtin, Sem.run_bind, Sem.run_pure, Result.andThen_ok, List.map_toArray, List.map_cons, List.map_nil, hs, hx, hr]
  exact hK _ _ h
theorem info83 : (Try.prog.info? 83).map (fun i => (i.zero, i.size, i.bytes)) = some (some (.agg #[.int .u32 0, .slice none 0 0, .int .i64 0, .int .i64 0]), 4, 48) := by kernel_rfl
theorem new_cells4 {w : World} {h : Nat} {a b c d : Value} {t : TypeId} (hh : w.heap.size = h) : ∀ (j : Nat) u, [a, b, c, d][j]? = some u → (w.alloc (.cells #[a, b, c, d] t)).cell? ((⟨h, 0, none⟩ : Addr).add j) = some u := by
  intro j u hu
  rw [add_plain', Nat.zero_add]
  subst hh
  exact cells_cell (by rw [heap_alloc_get, if_pos rfl]) (by simpa using hu)
/-! ### What the reference may turn -/
def RefTy6 (o : Obj) : Prop := ∃ cur e, o = .cells cur e (0, 0) ∧ (e = 89 ∨ e = 83 ∨ e = 60)
/-- Of the old blocks only such as a reference's window is made of have turned, none of them older than B. -/
def StepQ (B : Nat) (w0 W : World) : Prop := ∃ S, Step S w0 W ∧ ∀ i ∈ S, B ≤ i ∧ ∀ o, w0.heap[i]? = some o → RefTy6 o
theorem StepQ.of {B : Nat} {w0 W : World} (h : Step [] w0 W) : StepQ B w0 W := ⟨[], h, by simp⟩
theorem StepQ.push {B : Nat} {w0 W W' : World} {S' : List Nat} (h : StepQ B w0 W) (hs : Step S' W W') (hS : ∀ i ∈ S', B ≤ i ∧ (w0.heap.size ≤ i ∨ ∀ o, W.heap[i]? = some o → RefTy6 o)) : StepQ B w0 W' := by
  obtain ⟨S, h1, h2⟩ := h
  refine ⟨S ++ S', h1.trans' hs (fun i hi _ => List.mem_append_left _ hi) (fun i hi _ => List.mem_append_right _ hi), fun i hi => ?_⟩
  by_cases hm : i ∈ S
  · exact h2 i hm
  · have hi' := (List.mem_append.1 hi).resolve_left hm
    refine ⟨(hS i hi').1, fun o ho => ?_⟩
    rcases (hS i hi').2 with h3 | h3
    · have := heap_lt ho; omega
    · exact h3 o ((h1.same i (heap_lt ho) hm).trans ho)
theorem StepQ.same {B : Nat} {w0 W W' : World} (h : StepQ B w0 W) (hs : Step [] W W') : StepQ B w0 W' := h.push hs (by simp)
theorem StepQ.low {B : Nat} {w w0 W : World} (h : StepQ B w0 W) (h0 : Step [] w w0) (hB : w.heap.size ≤ B) : Step [] w W := by
  obtain ⟨S, h1, h2⟩ := h
  exact h0.trans' h1 (fun i hi _ => hi) (fun i hi hl => by have := (h2 i hi).1; omega)
theorem StepQ.size {B : Nat} {w0 W : World} (h : StepQ B w0 W) : w0.heap.size ≤ W.heap.size := by obtain ⟨S, h1, _⟩ := h; exact h1.size
theorem refTy6_not {W : World} {i : Nat} {e : TypeId} (h : ∀ o, W.heap[i]? = some o → RefTy6 o) (he : e ≠ 89 ∧ e ≠ 83 ∧ e ≠ 60) : ∀ cur, W.heap[i]? ≠ some (.cells cur e (0, 0)) := fun cur hc => by
  obtain ⟨c, e', h1, h2⟩ := h _ hc
  injection h1 with q1 q2 q3
  subst q2
  rcases h2 with h | h | h
  · exact he.1 h
  · exact he.2.1 h
  · exact he.2.2 h
theorem refTy6_map {W : World} {i : Nat} (h : ∀ o, W.heap[i]? = some o → RefTy6 o) : ∀ es c, W.heap[i]? ≠ some (.map es c) := fun es c hc => by
  obtain ⟨c, e', h1, h2⟩ := h _ hc
  cases h1
section
variable {B : Nat} {W W' : World} {br rs u lim a z : Nat} {sv : Value} {E : List En4} {R : List Rc} {S : List Nat}
theorem RefW.tyO (h : RefW B W br rs u lim a z sv E R) : ∀ o, W.heap[br]? = some o → RefTy6 o := fun o ho => by rw [h.o] at ho; cases ho; exact ⟨_, _, rfl, .inl rfl⟩
theorem RefW.tyS (h : RefW B W br rs u lim a z sv E R) : ∀ o, W.heap[rs]? = some o → RefTy6 o := fun o ho => by
  have h1 : W.heap[rs]? = some (spaceObj 60 u lim) := h.s
  rw [h1] at ho; cases ho; exact ⟨_, _, rfl, .inr (.inr rfl)⟩
theorem RefW.tyR (h : RefW B W br rs u lim a z sv E R) {g : Nat} (hg : sv.ownBlock = some g) : ∀ o, W.heap[g]? = some o → RefTy6 o := fun o ho => by
  obtain ⟨_, cur, hc⟩ := row_type h.row g (by simp [hg])
  rw [hc] at ho; cases ho; exact ⟨_, _, rfl, .inr (.inl rfl)⟩
theorem RefW.ne (h : RefW B W br rs u lim a z sv E R) : br ≠ rs := fun e => by
  have h1 : W.heap[rs]? = some (spaceObj 60 u lim) := h.s
  rw [← e, h.o] at h1
  cases h1
theorem RefW.neR (h : RefW B W br rs u lim a z sv E R) {g : Nat} (hg : sv.ownBlock = some g) : g ≠ br ∧ g ≠ rs := by
  obtain ⟨_, cur, hc⟩ := row_type h.row g (by simp [hg])
  refine ⟨fun e => ?_, fun e => ?_⟩
  · rw [e, h.o] at hc; cases hc
  · have h1 : W.heap[rs]? = some (spaceObj 60 u lim) := h.s
    rw [e, h1] at hc; cases hc
/-- One item is appended. -/
theorem RefW.push {w2 : World} {e : En4} {q : Rc} {v' : Value} (h : RefW B W br rs u lim a z sv E R) (hs : Step sv.ownBlock.toList W w2)
    (hrow : w2.ownsRow B 83 4 v' (E.length + 1) (cells4 E ++ [.int .u32 (e.1 : Int), e.2.1, .int .i64 (e.2.2.1 : Int), .int .i64 (e.2.2.2 : Int)]))
    (he : e.1 = q.1 ∧ e.2.2.1 = q.2.2.1 ∧ e.2.2.2 = q.2.2.2) (hp : PayAt B W e.2.1 q.2.1) :
    RefW B (w2.setCell ⟨br, 3, none⟩ v') br rs u lim a z v' (E ++ [e]) (R ++ [q]) ∧ Step (br :: sv.ownBlock.toList) W (w2.setCell ⟨br, 3, none⟩ v') := by
  have hty := row_type h.row
  have h5 : ∀ i ∈ sv.ownBlock.toList, ∀ cur, W.heap[i]? ≠ some (.cells cur 5 (0, 0)) := fun i hi cur hc => by
    obtain ⟨_, cur', hc'⟩ := hty i hi
    rw [hc] at hc'; cases hc'
  have ho2 := obj_step h.o hs (fun hm => by simp at hm; exact (h.neR hm).1 rfl)
  have hs2 : w2.heap[rs]? = some (spaceObj 60 u lim) := obj_step h.s hs (fun hm => by simp at hm; exact (h.neR hm).2 rfl)
  have hsO : Step [br] w2 (w2.setCell ⟨br, 3, none⟩ v') := Step.setObj ho2 rfl (by simp) _ _
  have hb5 : ∀ i ∈ [br], ∀ cur, w2.heap[i]? ≠ some (.cells cur 5 (0, 0)) := fun i hi cur hc => by
    simp at hi; subst hi; rw [ho2] at hc; cases hc
  have hrow2 : w2.ownsRow B 83 4 v' (E ++ [e]).length (cells4 (E ++ [e])) := by
    rw [cells4_snoc, List.length_append]; exact hrow
  refine ⟨⟨setCell_obj ho2 3 v', obj_step hs2 hsO (by simp; exact h.ne.symm), h.lo, row_step hrow2 hsO (fun g hg hm => ?_), ?_⟩, hs.trans' hsO (fun i hi _ => List.mem_cons_of_mem _ hi) (fun i hi _ => by simp at hi; rw [hi]; exact List.mem_cons_self)⟩
  · simp at hm
    obtain ⟨_, cur, hc⟩ := row_type hrow2 g (by simp [hg])
    rw [hm, ho2] at hc; cases hc
  · have hr := (h.r.step hs h5).step hsO hb5
    have hp2 : PayAt B (w2.setCell ⟨br, 3, none⟩ v') e.2.1 q.2.1 := ⟨(hp.1.apart6 hs h5).apart6 hsO hb5, hp.2⟩
    refine ⟨by rw [List.length_append, List.length_append, h.r.len]; rfl, fun i e' q' he' hq' => ?_⟩
    by_cases hi : i < E.length
    · rw [List.getElem?_append_left hi] at he'
      rw [List.getElem?_append_left (by rw [← h.r.len]; exact hi)] at hq'
      exact hr.at_ i e' q' he' hq'
    · have hil := (List.getElem?_eq_some_iff.1 he').1
      simp at hil
      have hie : i = E.length := by omega
      subst hie
      rw [List.getElem?_append_right (Nat.le_refl _)] at he'
      rw [h.r.len, List.getElem?_append_right (Nat.le_refl _)] at hq'
      simp at he' hq'
      subst he'
      subst hq'
      exact ⟨he.1, he.2.1, he.2.2, hp2⟩
end
section
variable {B : Nat} {w : World} {br rs u lim a z : Nat} {sv : Value} {E : List En4} {R : List Rc}
set_option maxRecDepth 100000 in
theorem refWPut_arg (v : Value) (now : Int) (hn : now < 0 ∨ 1099511627776 < now) : Calls Try.prog 48 #[.pointer (some ⟨br, 0, none⟩), v, .int .i64 now] w fun e w' => e = .returned (.tuple #[.int .u32 0, .int .i64 1]) ∧ w = w' := by
  by_cases h1 : now < 0
  · clear hn
    have s1 : (now < 0) = True := eq_true h1
    go_enter Try.func48, Try.ntmps48
    go_wp2_with fail
    go_ret2
    exact ⟨rfl, rfl⟩
  · have s1 : (now < 0) = False := eq_false h1
    have s2 : (1099511627776 < now) = True := eq_true (by omega)
    clear hn
    go_enter Try.func48, Try.ntmps48
    go_wp2_with fail
    go_ret2
    exact ⟨rfl, rfl⟩
set_option maxRecDepth 100000 in
theorem refWPut_long (q : Option Addr) (len cap now : Nat) (hn : now ≤ 1099511627776) (hl : 256 < len) : Calls Try.prog 48 #[.pointer (some ⟨br, 0, none⟩), .slice q len cap, .int .i64 (now : Int)] w fun e w' => e = .returned (.tuple #[.int .u32 0, .int .i64 3]) ∧ w = w' := by
  have s1 : ((now : Int) < 0) = False := eq_false (by omega)
  have s2 : ((1099511627776 : Int) < (now : Int)) = False := eq_false (by omega)
  have s3 : ((256 : Int) < (len : Int)) = True := eq_true (by omega)
  clear hn hl
  go_enter Try.func48, Try.ntmps48
  go_wp2_with fail
  go_ret2
  exact ⟨rfl, rfl⟩
set_option maxRecDepth 100000 in
theorem refWPut_busy (h : RefW B w br rs u lim a z sv E R) (q : Option Addr) (len cap now : Nat) (hn : now ≤ 1099511627776) (hl : len ≤ 256) (hm : 16 ≤ E.length) : Calls Try.prog 48 #[.pointer (some ⟨br, 0, none⟩), .slice q len cap, .int .i64 (now : Int)] w fun e w' => e = .returned (.tuple #[.int .u32 0, .int .i64 8]) ∧ w = w' := by
  obtain ⟨ao, cp, rfl, hcap, hcm⟩ := h.form
  obtain ⟨c0, c1, c2, c3, _⟩ := h.cells
  have s1 : ((now : Int) < 0) = False := eq_false (by omega)
  have s2 : ((1099511627776 : Int) < (now : Int)) = False := eq_false (by omega)
  have s3 : ((256 : Int) < (len : Int)) = False := eq_false (by omega)
  have s4 : ((16 : Int) ≤ (E.length : Int)) = True := eq_true (by omega)
  clear hn hl hm h hcap hcm
  go_enter Try.func48, Try.ntmps48
  go_wp2_with fail
  go_ret2
  exact ⟨rfl, rfl⟩
set_option maxRecDepth 100000 in
theorem refWPut_full (h : RefW B w br rs u lim a z sv E R) (hl31 : lim ≤ 2147483648) (q : Option Addr) (len cap now : Nat) (hn : now ≤ 1099511627776) (hl : len ≤ 256) (hm : E.length < 16) (hu : u = lim) : Calls Try.prog 48 #[.pointer (some ⟨br, 0, none⟩), .slice q len cap, .int .i64 (now : Int)] w fun e w' => e = .returned (.tuple #[.int .u32 0, .int .i64 7]) ∧ Step [] w w' := by
  subst hu
  obtain ⟨ao, cp, rfl, hcap, hcm⟩ := h.form
  obtain ⟨c0, c1, c2, c3, _⟩ := h.cells
  have HX := Lib.hid (refNext_full rs u (by omega) w h.s)
  have s1 : ((now : Int) < 0) = False := eq_false (by omega)
  have s2 : ((1099511627776 : Int) < (now : Int)) = False := eq_false (by omega)
  have s3 : ((256 : Int) < (len : Int)) = False := eq_false (by omega)
  have s4 : ((16 : Int) ≤ (E.length : Int)) = False := eq_false (by omega)
  clear hn hl hm h hcap hcm hl31
  go_enter Try.func48, Try.ntmps48
  go_wp2_with (go_at_call 40; refine HX.out.mono ?_; rintro e w1 ⟨rfl, hsp, hst⟩; have HT := Lib.hid hst; clear hsp hst)
  go_ret2
  exact ⟨rfl, HT.out⟩
end
end Go.Proofs.Ytbainekfbonbjaa
namespace Go.Proofs.Ytbainekfbonbjaa
open Go.RowKit Go.Shelf
set_option linter.unusedVariables false
set_option linter.unusedSimpArgs false
attribute [local go_sem] Oper.semAt_some

/-- An append whose run is known, in a drawn region. -/
theorem wp_append_runP {P : Program} {w w' : World} {v' : Value} {o : Oper} {a : Act} {K : Act → World → Prop} {Q : Exit → Act → World → Prop} (s x : Operand) (t : TypeId)
    (ho : o.op = .call { callee := .builtin .append, args := #[s, x], argTypes := #[t, t] }) (vs vx : Value) (hs : a.eval s = vs) (hx : a.eval x = vx)
    (hr : (Builtin.append_ #[t, t] o.type #[vs, vx]).run P w = .ok v' w') (h : K (a.put o.dst v') w') : o.wp P a w K Q := by
  unfold Oper.wp execOp
  simp only [ho, resolve, invoke, builtin, Sem.run_bind, Sem.run_pure, Result.andThen_ok, List.map_toArray, List.map_cons, List.map_nil, hs, hx, hr]
  exact h
section
variable {B : Nat} {w : World} {br rs u lim a z : Nat} {sv : Value} {E : List En4} {R : List Rc}
set_option maxRecDepth 100000 in
set_option maxHeartbeats 2000000 in
theorem refWPut_ok (h : RefW B w br rs u lim a z sv E R) (hB : B ≤ w.heap.size) (hl31 : lim ≤ 2147483648) (q : Option Addr) (cap now : Nat) (p : List Nat) (n : Nat) (hpn : n = p.length) (hp : ∀ x ∈ p, x < 256) (hr : Reads w (.slice q n cap) (u8s p)) (hn : now ≤ 1099511627776) (hl : p.length ≤ 256) (hm : E.length < 16) (hu : u < lim) :
    Calls Try.prog 48 #[.pointer (some ⟨br, 0, none⟩), .slice q n cap, .int .i64 (now : Int)] w fun e w' => e = .returned (.tuple #[.int .u32 (u : Int), .int .i64 0]) ∧ ∃ sv' pv, RefW B w' br rs (u + 1) lim a z sv' (E ++ [(u, pv, 0, now)]) (R ++ [(u, (p, 0, now))]) ∧ (∀ g, pv.ownBlock = some g → w.heap.size ≤ g) ∧ StepQ B w w' := by
  obtain ⟨i1, hi1, hy0, hy1, hy2⟩ := info_parts info83
  obtain ⟨ao, cp, rfl, hcap, hcm⟩ := h.form
  obtain ⟨c0, c1, c2, c3, c4⟩ := h.cells
  have HX := Lib.hid (refNext_ok rs u lim hu (by omega) w h.s)
  obtain ⟨L, hL⟩ : ∃ L, L = E.length := ⟨_, rfl⟩
  rw [← hL] at c3 hcap hm
  have s1 : ((now : Int) < 0) = False := eq_false (by omega)
  have s2 : ((1099511627776 : Int) < (now : Int)) = False := eq_false (by omega)
  have s3 : ((256 : Int) < (n : Int)) = False := eq_false (by omega)
  have s4 : ((16 : Int) ≤ (L : Int)) = False := eq_false (by omega)
  have hcm2 : cp ≤ 9223372036854775807 := by unfold maxLen at hcm; omega
  have H := Lib.hid (And.intro h (And.intro hr (And.intro hp (And.intro hl (And.intro hpn (And.intro hL hB))))))
  clear hn hl h hr hp hpn hL hcm hl31 hB hu
  go_enter Try.func48, Try.ntmps48
  go_upto_region 11 with (go_at_call 40; refine HX.out.mono ?_; rintro e w1 ⟨rfl, hsp, hst⟩; have HT := Lib.hid (And.intro hsp hst); clear hsp hst)
  have hs1 := HT.out.2
  have h1 : RefW B w1 br rs (u + 1) lim a z (.slice ao L cp) E R := by
    have h0 := H.out.1
    rw [← H.out.2.2.2.2.2.1] at h0
    refine ⟨obj_step h0.o hs1 (by simp; exact h0.ne), HT.out.1, h0.lo, row_step h0.row hs1 (fun g hg hm => ?_), h0.r.step hs1 (fun i hi cur hc => ?_)⟩
    · simp at hm
      exact (h0.neR hg).2 hm
    · simp at hi
      subst hi
      exact refTy6_not h0.tyS (by decide) cur hc
  have hrd : Reads w1 (.slice q n cap) (u8s p) := H.out.2.1.apart hs1 (fun i hi j x hc => by
    simp at hi
    subst hi
    have h1 : w.heap[i]? = some (spaceObj 60 u lim) := H.out.1.s
    unfold spaceObj at h1
    simp only [World.cell?, h1] at hc
    match j with
    | 0 => simp at hc
    | 1 => simp at hc
    | j + 2 => simp at hc)
  obtain ⟨pv, W1, hrun1, hown1, hst1⟩ := append_nilP w1.drew q n cap (u8s p) (hrd.same (Step.drew (S := []) w1)) (u8s_one p) (by rw [u8s_length]; have := H.out.2.2.2.1; omega)
  have h2 := (h1.same (Step.drew w1)).same hst1
  obtain ⟨pq, pc, rfl, hpc, _⟩ := hown1.form
  rw [u8s_length, ← H.out.2.2.2.2.1] at hown1 hrun1 hpc
  have k3 := h1.cells.2.2.2.1
  have k4 := h1.cells.2.2.2.2
  have m3 := h2.cells.2.2.2.1
  have m4 := h2.cells.2.2.2.2
  have hsz : B ≤ W1.heap.size := by have := H.out.2.2.2.2.2.2; have := hs1.size; have := hst1.size; have : w1.drew.heap.size = w1.heap.size := rfl; omega
  have HR := Lib.hid (show W1.ownsRow B 83 4 (.slice ao L cp) L (cells4 E) by have := h2.row; rw [← H.out.2.2.2.2.2.1] at this; exact this)
  have HZ := Lib.hid (And.intro h1 (And.intro h2 (And.intro hown1 (And.intro hst1 hs1))))
  have HZ0 := h2.o
  have HNE := Lib.hid (show br ∉ (Value.slice ao L cp).ownBlock.toList from fun hm => by simp at hm; exact (h2.neR hm).1 rfl)
  obtain ⟨v', w2, hrun2, hown2, hgrow, _⟩ := run_append_own (P := Try.prog) (W1.alloc (.cells #[.int .u32 (u : Int), .slice pq n pc, .int .i64 0, .int .i64 (now : Int)] 83)) B 78 78 83 i1 _ 4 48 Try.underlying78 hi1 hy0 hy1 hy2 rfl (by decide) (.slice ao L cp) L (cells4 E) (HR.out.alloc _) ⟨W1.heap.size, 0, none⟩ 1 1 [.int .u32 (u : Int), .slice pq n pc, .int .i64 0, .int .i64 (now : Int)] rfl (new_cells4 rfl) (by simp [Value.oneCell']) (by unfold maxLen; omega) (by omega) (by simp; omega)
  obtain ⟨vq, vn, rfl⟩ := rowForm6 hown2
  have m5 := cells_cell (i := 3) (obj_step HZ0 (Step.alloc (S := []) W1 (.cells #[.int .u32 (u : Int), .slice pq n pc, .int .i64 0, .int .i64 (now : Int)] 83)) (by simp)) rfl
  have hs2 := appended_stepP rfl HR.out hgrow
  have o2 := obj_step HZ0 hs2 HNE.out
  have m1 := cells_cell (i := 3) o2 rfl
  have n1 := cells_frozen (i := 3) o2
  have HP := Lib.hid (show RefW B (w2.setCell ⟨br, 3, none⟩ (.slice vq (L + 1) vn)) br rs (u + 1) lim a z (.slice vq (L + 1) vn) (E ++ [(u, .slice pq n pc, 0, now)]) (R ++ [(u, (p, 0, now))]) ∧ (∀ g, (Value.slice pq n pc).ownBlock = some g → w.heap.size ≤ g) ∧ StepQ B w (w2.setCell ⟨br, 3, none⟩ (.slice vq (L + 1) vn)) from by
    have hpay : PayAt B W1 (.slice pq n pc) p := ⟨OwnAt.low hown1 (by have := H.out.2.2.2.2.2.2; have := hs1.size; show B ≤ w1.heap.size; omega), H.out.2.2.2.1, H.out.2.2.1⟩
    rw [H.out.2.2.2.2.2.1] at hs2 hown2
    obtain ⟨g1, g2⟩ := (show RefW B W1 br rs (u + 1) lim a z (.slice ao E.length cp) E R by have := h2; rw [H.out.2.2.2.2.2.1] at this; exact this).push (e := (u, .slice pq n pc, 0, now)) (q := (u, (p, 0, now))) hs2 hown2 ⟨rfl, rfl, rfl⟩ hpay
    rw [← H.out.2.2.2.2.2.1] at g1 g2
    refine ⟨g1, fun g hg => ?_, ?_⟩
    · have h5 := (hown1.block hg).1
      have h6 := hs1.size
      have h7 : w1.drew.heap.size = w1.heap.size := rfl
      omega
    · have q1 : StepQ B w w1 := (StepQ.of (Step.refl (S := []) w)).push hs1 (fun i hi => by simp at hi; subst hi; exact ⟨H.out.1.lo.2, .inr H.out.1.tyS⟩)
      refine ((q1.same (Step.drew w1)).same hst1).push g2 (fun i hi => ?_)
      rcases List.mem_cons.1 hi with rfl | hi
      · exact ⟨h2.lo.1, .inr h2.tyO⟩
      · have h8 : (Value.slice ao L cp).ownBlock = some i := by simpa using hi
        exact ⟨(row_type h2.row i hi).1, .inr (h2.tyR h8)⟩)
  have HRun1 := Lib.hid hrun1
  have HRun2 := Lib.hid hrun2
  clear hrun1 hrun2 h1 h2 hrd hown1 hst1 hs1 c0 c1 c2 c3 c4 HZ0 hown2 hs2 hgrow o2
  refine wp_region_noPanic ?_
  refine wp_region_held_drew (S := fun _ => True) (by kernel_rfl) trivial (fun hHeld => ?_)
  refine wpAnyH_take (i := 0) (v := ?v0_1) rfl (by kernel_rfl) (by kernel_rfl) (by kernel_rfl) (fun _ _ _ h => h) (Or.inl ⟨by rfl, ?y0_1⟩) (by assumption) ?r0_1
  case y0_1 => ((try simp only [List.getElem_toArray, List.getElem_cons_succ, List.getElem_cons_zero]); intro w hSw; (try dsimp only at hSw); go_simp; first | done | with_reducible rfl)
  (try simp only [Act.put, List.getElem_toArray, List.getElem_cons_succ, List.getElem_cons_zero, List.setIfInBounds_toArray, List.set_cons_zero, List.set_cons_succ])
  refine wpAnyH_take (i := 1) (v := ?v1_2) rfl (by kernel_rfl) (by kernel_rfl) (by kernel_rfl) (fun _ _ _ h => h) (Or.inl ⟨by rfl, ?y1_2⟩) (by assumption) ?r1_2
  case y1_2 => ((try simp only [List.getElem_toArray, List.getElem_cons_succ, List.getElem_cons_zero]); intro w hSw; (try dsimp only at hSw); go_simp; first | done | with_reducible rfl)
  (try simp only [Act.put, List.getElem_toArray, List.getElem_cons_succ, List.getElem_cons_zero, List.setIfInBounds_toArray, List.set_cons_zero, List.set_cons_succ])
  refine wpAnyH_take (i := 2) (v := ?v2_3) rfl (by kernel_rfl) (by kernel_rfl) (by kernel_rfl) (fun _ _ _ h => h) (Or.inl ⟨by rfl, ?y2_3⟩) (by assumption) ?r2_3
  case y2_3 => ((try simp only [List.getElem_toArray, List.getElem_cons_succ, List.getElem_cons_zero]); intro w hSw; (try dsimp only at hSw); go_simp; first | done | with_reducible rfl)
  (try simp only [Act.put, List.getElem_toArray, List.getElem_cons_succ, List.getElem_cons_zero, List.setIfInBounds_toArray, List.set_cons_zero, List.set_cons_succ])
  refine wpAnyH_take (i := 3) (v := ?v3_4) rfl (by kernel_rfl) (by kernel_rfl) (by kernel_rfl) (fun _ _ _ h => h) (Or.inl ⟨by rfl, ?y3_4⟩) (by assumption) ?r3_4
  case y3_4 => ((try simp only [List.getElem_toArray, List.getElem_cons_succ, List.getElem_cons_zero]); intro w hSw; (try dsimp only at hSw); go_simp; first | done | with_reducible rfl)
  (try simp only [Act.put, List.getElem_toArray, List.getElem_cons_succ, List.getElem_cons_zero, List.setIfInBounds_toArray, List.set_cons_zero, List.set_cons_succ])
  refine wpAnyH_take (i := 5) (v := ?v5_5) rfl (by kernel_rfl) (by kernel_rfl) (by kernel_rfl) (fun _ _ _ h => h) (Or.inl ⟨by rfl, ?y5_5⟩) (by assumption) ?r5_5
  case y5_5 => ((try simp only [List.getElem_toArray, List.getElem_cons_succ, List.getElem_cons_zero]); intro w hSw; (try dsimp only at hSw); go_simp; first | done | with_reducible rfl)
  (try simp only [Act.put, List.getElem_toArray, List.getElem_cons_succ, List.getElem_cons_zero, List.setIfInBounds_toArray, List.set_cons_zero, List.set_cons_succ])
  refine wpAnyH_take (i := 6) (v := ?v6_6) rfl (by kernel_rfl) (by kernel_rfl) (by kernel_rfl) (fun _ _ _ h => h) (Or.inl ⟨by rfl, ?y6_6⟩) (by assumption) ?r6_6
  case y6_6 => ((try simp only [List.getElem_toArray, List.getElem_cons_succ, List.getElem_cons_zero]); intro w hSw; (try dsimp only at hSw); go_simp; first | done | with_reducible rfl)
  (try simp only [Act.put, List.getElem_toArray, List.getElem_cons_succ, List.getElem_cons_zero, List.setIfInBounds_toArray, List.set_cons_zero, List.set_cons_succ])
  refine wpAnyH_take (i := 7) (v := ?v7_7) rfl (by kernel_rfl) (by kernel_rfl) (by kernel_rfl) (fun _ _ _ h => h) (Or.inl ⟨by rfl, ?y7_7⟩) (by assumption) ?r7_7
  case y7_7 => ((try simp only [List.getElem_toArray, List.getElem_cons_succ, List.getElem_cons_zero]); intro w hSw; (try dsimp only at hSw); go_simp; first | done | with_reducible rfl)
  (try simp only [Act.put, List.getElem_toArray, List.getElem_cons_succ, List.getElem_cons_zero, List.setIfInBounds_toArray, List.set_cons_zero, List.set_cons_succ])
  refine wpAnyH_take (i := 9) (v := ?v9_8) rfl (by kernel_rfl) (by kernel_rfl) (by kernel_rfl) (fun _ _ _ h => h) (Or.inl ⟨by rfl, ?y9_8⟩) (by assumption) ?r9_8
  case y9_8 => ((try simp only [List.getElem_toArray, List.getElem_cons_succ, List.getElem_cons_zero]); intro w hSw; (try dsimp only at hSw); go_simp; first | done | with_reducible rfl)
  (try simp only [Act.put, List.getElem_toArray, List.getElem_cons_succ, List.getElem_cons_zero, List.setIfInBounds_toArray, List.set_cons_zero, List.set_cons_succ])
  refine wpAnyH_ready (rs := [4, 8]) (by kernel_rfl) (by simp) ?_
  refine AllReadyH.cons (o := _) rfl (fun K hK => ?_) ?_
  · skip
    go_simp
    refine hK.out _ _ trivial (fun hHeld => ?_)
    clear hK K
    (try simp only [Act.put, List.getElem_toArray, List.getElem_cons_succ, List.getElem_cons_zero, List.setIfInBounds_toArray, List.set_cons_zero, List.set_cons_succ])
    refine wpAnyH_ready (rs := [8]) (by kernel_rfl) (by simp) ?_
    refine AllReadyH.cons (o := _) rfl (fun K hK => ?_) AllReadyH.nil
    rw [if_pos (by rfl)]
    refine wp_append_runP _ _ 71 rfl _ _ rfl rfl HRun1.out ?_
    refine hK.out _ _ trivial (fun hHeld => ?_)
    clear hK K
    (try simp only [Act.put, List.getElem_toArray, List.getElem_cons_succ, List.getElem_cons_zero, List.setIfInBounds_toArray, List.set_cons_zero, List.set_cons_succ])
    refine wpAnyH_take (i := 10) (v := ?v10_9) rfl (by kernel_rfl) (by kernel_rfl) (by kernel_rfl) (fun _ _ _ h => h) (Or.inl ⟨by rfl, ?y10_9⟩) (by assumption) ?r10_9
    case y10_9 => ((try simp only [List.getElem_toArray, List.getElem_cons_succ, List.getElem_cons_zero]); intro w hSw; (try dsimp only at hSw); go_simp; first | done | with_reducible rfl)
    (try simp only [Act.put, List.getElem_toArray, List.getElem_cons_succ, List.getElem_cons_zero, List.setIfInBounds_toArray, List.set_cons_zero, List.set_cons_succ])
    refine wpAnyH_ready (rs := [11]) (by kernel_rfl) (by simp) ?_
    refine AllReadyH.cons (o := _) rfl (fun K hK => ?_) AllReadyH.nil
    go_simp
    refine hK.out _ _ trivial (fun hHeld => ?_)
    clear hK K
    (try simp only [Act.put, List.getElem_toArray, List.getElem_cons_succ, List.getElem_cons_zero, List.setIfInBounds_toArray, List.set_cons_zero, List.set_cons_succ])
    refine wpAnyH_ready (rs := [12]) (by kernel_rfl) (by simp) ?_
    refine AllReadyH.cons (o := _) rfl (fun K hK => ?_) AllReadyH.nil
    rw [if_pos (by rfl)]
    refine wp_append_runP _ _ 78 rfl _ _ rfl rfl HRun2.out ?_
    refine hK.out _ _ trivial (fun hHeld => ?_)
    clear hK K
    (try simp only [Act.put, List.getElem_toArray, List.getElem_cons_succ, List.getElem_cons_zero, List.setIfInBounds_toArray, List.set_cons_zero, List.set_cons_succ])
    refine wpAnyH_take (i := 13) (v := ?v13_10) rfl (by kernel_rfl) (by kernel_rfl) (by kernel_rfl) (fun _ _ _ h => h) (Or.inl ⟨by rfl, ?y13_10⟩) (by assumption) ?r13_10
    case y13_10 => ((try simp only [List.getElem_toArray, List.getElem_cons_succ, List.getElem_cons_zero]); intro w hSw; (try dsimp only at hSw); go_simp; first | done | with_reducible rfl)
    (try simp only [Act.put, List.getElem_toArray, List.getElem_cons_succ, List.getElem_cons_zero, List.setIfInBounds_toArray, List.set_cons_zero, List.set_cons_succ])
    refine wpAnyH_take (i := 14) (v := ?v14_11) rfl (by kernel_rfl) (by kernel_rfl) (by kernel_rfl) (fun _ _ _ h => h) (Or.inl ⟨by rfl, ?y14_11⟩) (by assumption) ?r14_11
    case y14_11 => ((try simp only [List.getElem_toArray, List.getElem_cons_succ, List.getElem_cons_zero]); intro w hSw; (try dsimp only at hSw); go_simp; first | done | with_reducible rfl)
    (try simp only [Act.put, List.getElem_toArray, List.getElem_cons_succ, List.getElem_cons_zero, List.setIfInBounds_toArray, List.set_cons_zero, List.set_cons_succ])
    refine wpAnyH_ready (rs := [15]) (by kernel_rfl) (by simp) ?_
    refine AllReadyH.cons (o := _) rfl (fun K hK => ?_) AllReadyH.nil
    go_simp
    refine hK.out _ _ trivial (fun hHeld => ?_)
    clear hK K
    (try simp only [Act.put, List.getElem_toArray, List.getElem_cons_succ, List.getElem_cons_zero, List.setIfInBounds_toArray, List.set_cons_zero, List.set_cons_succ])
    refine wpAnyH_done (by kernel_rfl) ?_ _
    refine NoPanic.normal ?_
    clear hHeld
    go_wp2_with fail
    go_ret2
    exact ⟨rfl, _, _, HP.out⟩
  refine AllReadyH.cons (o := _) rfl (fun K hK => ?_) ?_
  · skip
    rw [if_pos (by rfl)]
    refine wp_append_runP _ _ 71 rfl _ _ rfl rfl HRun1.out ?_
    refine hK.out _ _ trivial (fun hHeld => ?_)
    clear hK K
    (try simp only [Act.put, List.getElem_toArray, List.getElem_cons_succ, List.getElem_cons_zero, List.setIfInBounds_toArray, List.set_cons_zero, List.set_cons_succ])
    refine wpAnyH_take (i := 10) (v := ?v10_12) rfl (by kernel_rfl) (by kernel_rfl) (by kernel_rfl) (fun _ _ _ h => h) (Or.inl ⟨by rfl, ?y10_12⟩) (by assumption) ?r10_12
    case y10_12 => ((try simp only [List.getElem_toArray, List.getElem_cons_succ, List.getElem_cons_zero]); intro w hSw; (try dsimp only at hSw); go_simp; first | done | with_reducible rfl)
    (try simp only [Act.put, List.getElem_toArray, List.getElem_cons_succ, List.getElem_cons_zero, List.setIfInBounds_toArray, List.set_cons_zero, List.set_cons_succ])
    refine wpAnyH_ready (rs := [4, 11]) (by kernel_rfl) (by simp) ?_
    refine AllReadyH.cons (o := _) rfl (fun K hK => ?_) ?_
    · skip
      go_simp
      refine hK.out _ _ trivial (fun hHeld => ?_)
      clear hK K
      (try simp only [Act.put, List.getElem_toArray, List.getElem_cons_succ, List.getElem_cons_zero, List.setIfInBounds_toArray, List.set_cons_zero, List.set_cons_succ])
      refine wpAnyH_ready (rs := [11]) (by kernel_rfl) (by simp) ?_
      refine AllReadyH.cons (o := _) rfl (fun K hK => ?_) AllReadyH.nil
      go_simp
      refine hK.out _ _ trivial (fun hHeld => ?_)
      clear hK K
      (try simp only [Act.put, List.getElem_toArray, List.getElem_cons_succ, List.getElem_cons_zero, List.setIfInBounds_toArray, List.set_cons_zero, List.set_cons_succ])
      refine wpAnyH_ready (rs := [12]) (by kernel_rfl) (by simp) ?_
      refine AllReadyH.cons (o := _) rfl (fun K hK => ?_) AllReadyH.nil
      rw [if_pos (by rfl)]
      refine wp_append_runP _ _ 78 rfl _ _ rfl rfl HRun2.out ?_
      refine hK.out _ _ trivial (fun hHeld => ?_)
      clear hK K
      (try simp only [Act.put, List.getElem_toArray, List.getElem_cons_succ, List.getElem_cons_zero, List.setIfInBounds_toArray, List.set_cons_zero, List.set_cons_succ])
      refine wpAnyH_take (i := 13) (v := ?v13_13) rfl (by kernel_rfl) (by kernel_rfl) (by kernel_rfl) (fun _ _ _ h => h) (Or.inl ⟨by rfl, ?y13_13⟩) (by assumption) ?r13_13
      case y13_13 => ((try simp only [List.getElem_toArray, List.getElem_cons_succ, List.getElem_cons_zero]); intro w hSw; (try dsimp only at hSw); go_simp; first | done | with_reducible rfl)
      (try simp only [Act.put, List.getElem_toArray, List.getElem_cons_succ, List.getElem_cons_zero, List.setIfInBounds_toArray, List.set_cons_zero, List.set_cons_succ])
      refine wpAnyH_take (i := 14) (v := ?v14_14) rfl (by kernel_rfl) (by kernel_rfl) (by kernel_rfl) (fun _ _ _ h => h) (Or.inl ⟨by rfl, ?y14_14⟩) (by assumption) ?r14_14
      case y14_14 => ((try simp only [List.getElem_toArray, List.getElem_cons_succ, List.getElem_cons_zero]); intro w hSw; (try dsimp only at hSw); go_simp; first | done | with_reducible rfl)
      (try simp only [Act.put, List.getElem_toArray, List.getElem_cons_succ, List.getElem_cons_zero, List.setIfInBounds_toArray, List.set_cons_zero, List.set_cons_succ])
      refine wpAnyH_ready (rs := [15]) (by kernel_rfl) (by simp) ?_
      refine AllReadyH.cons (o := _) rfl (fun K hK => ?_) AllReadyH.nil
      go_simp
      refine hK.out _ _ trivial (fun hHeld => ?_)
      clear hK K
      (try simp only [Act.put, List.getElem_toArray, List.getElem_cons_succ, List.getElem_cons_zero, List.setIfInBounds_toArray, List.set_cons_zero, List.set_cons_succ])
      refine wpAnyH_done (by kernel_rfl) ?_ _
      refine NoPanic.normal ?_
      clear hHeld
      go_wp2_with fail
      go_ret2
      exact ⟨rfl, _, _, HP.out⟩
    refine AllReadyH.cons (o := _) rfl (fun K hK => ?_) ?_
    · skip
      go_simp
      refine hK.out _ _ trivial (fun hHeld => ?_)
      clear hK K
      (try simp only [Act.put, List.getElem_toArray, List.getElem_cons_succ, List.getElem_cons_zero, List.setIfInBounds_toArray, List.set_cons_zero, List.set_cons_succ])
      refine wpAnyH_ready (rs := [4]) (by kernel_rfl) (by simp) ?_
      refine AllReadyH.cons (o := _) rfl (fun K hK => ?_) AllReadyH.nil
      go_simp
      refine hK.out _ _ trivial (fun hHeld => ?_)
      clear hK K
      (try simp only [Act.put, List.getElem_toArray, List.getElem_cons_succ, List.getElem_cons_zero, List.setIfInBounds_toArray, List.set_cons_zero, List.set_cons_succ])
      refine wpAnyH_ready (rs := [12]) (by kernel_rfl) (by simp) ?_
      refine AllReadyH.cons (o := _) rfl (fun K hK => ?_) AllReadyH.nil
      rw [if_pos (by rfl)]
      refine wp_append_runP _ _ 78 rfl _ _ rfl rfl HRun2.out ?_
      refine hK.out _ _ trivial (fun hHeld => ?_)
      clear hK K
      (try simp only [Act.put, List.getElem_toArray, List.getElem_cons_succ, List.getElem_cons_zero, List.setIfInBounds_toArray, List.set_cons_zero, List.set_cons_succ])
      refine wpAnyH_take (i := 13) (v := ?v13_15) rfl (by kernel_rfl) (by kernel_rfl) (by kernel_rfl) (fun _ _ _ h => h) (Or.inl ⟨by rfl, ?y13_15⟩) (by assumption) ?r13_15
      case y13_15 => ((try simp only [List.getElem_toArray, List.getElem_cons_succ, List.getElem_cons_zero]); intro w hSw; (try dsimp only at hSw); go_simp; first | done | with_reducible rfl)
      (try simp only [Act.put, List.getElem_toArray, List.getElem_cons_succ, List.getElem_cons_zero, List.setIfInBounds_toArray, List.set_cons_zero, List.set_cons_succ])
      refine wpAnyH_take (i := 14) (v := ?v14_16) rfl (by kernel_rfl) (by kernel_rfl) (by kernel_rfl) (fun _ _ _ h => h) (Or.inl ⟨by rfl, ?y14_16⟩) (by assumption) ?r14_16
      case y14_16 => ((try simp only [List.getElem_toArray, List.getElem_cons_succ, List.getElem_cons_zero]); intro w hSw; (try dsimp only at hSw); go_simp; first | done | with_reducible rfl)
      (try simp only [Act.put, List.getElem_toArray, List.getElem_cons_succ, List.getElem_cons_zero, List.setIfInBounds_toArray, List.set_cons_zero, List.set_cons_succ])
      refine wpAnyH_ready (rs := [15]) (by kernel_rfl) (by simp) ?_
      refine AllReadyH.cons (o := _) rfl (fun K hK => ?_) AllReadyH.nil
      go_simp
      refine hK.out _ _ trivial (fun hHeld => ?_)
      clear hK K
      (try simp only [Act.put, List.getElem_toArray, List.getElem_cons_succ, List.getElem_cons_zero, List.setIfInBounds_toArray, List.set_cons_zero, List.set_cons_succ])
      refine wpAnyH_done (by kernel_rfl) ?_ _
      refine NoPanic.normal ?_
      clear hHeld
      go_wp2_with fail
      go_ret2
      exact ⟨rfl, _, _, HP.out⟩
    exact AllReadyH.nil
  exact AllReadyH.nil
end
end Go.Proofs.Ytbainekfbonbjaa
namespace Go.Proofs.Ytbainekfbonbjaa
open Go.RowKit Go.Shelf
set_option linter.unusedVariables false
set_option linter.unusedSimpArgs false
attribute [local go_sem] Oper.semAt_some

def numHit (ack mask n : Nat) : Bool := decide (n < ack) || decide (n ∈ toldL ack mask)
theorem ackHit_num (ack mask : Nat) (q : Rc) : ackHit ack mask q = numHit ack mask q.1 := rfl
/-- An item says what a record says. -/
def SaysAt (B : Nat) (W : World) (e : En4) (q : Rc) : Prop := e.1 = q.1 ∧ e.2.2.1 = q.2.2.1 ∧ e.2.2.2 = q.2.2.2 ∧ PayAt B W e.2.1 q.2.1
section
variable {B : Nat} {W : World}
theorem RowR.nil : RowR B W [] [] := ⟨rfl, by simp⟩
theorem RowR.cons {e : En4} {q : Rc} {E : List En4} {R : List Rc} (h : SaysAt B W e q) (ht : RowR B W E R) : RowR B W (e :: E) (q :: R) :=
  ⟨by simp [ht.len], fun i e' q' he hq => by
    cases i with
    | zero => simp at he hq; subst he; subst hq; exact h
    | succ i => exact ht.at_ i e' q' (by simpa using he) (by simpa using hq)⟩
theorem RowR.head {e : En4} {q : Rc} {E : List En4} {R : List Rc} (h : RowR B W (e :: E) (q :: R)) : SaysAt B W e q := h.at_ 0 e q rfl rfl
theorem RowR.tail {e : En4} {q : Rc} {E : List En4} {R : List Rc} (h : RowR B W (e :: E) (q :: R)) : RowR B W E R :=
  ⟨by have := h.len; simpa using this, fun i e' q' he hq => h.at_ (i + 1) e' q' (by simpa using he) (by simpa using hq)⟩
theorem RowR.filter (f : Nat → Bool) : ∀ {E : List En4} {R : List Rc}, RowR B W E R → RowR B W (E.filter fun e => f e.1) (R.filter fun q => f q.1)
  | [], [], h => RowR.nil
  | [], q :: R, h => by have := h.len; simp at this
  | e :: E, [], h => by have := h.len; simp at this
  | e :: E, q :: R, h => by
    have ih := RowR.filter f h.tail
    have h0 := h.head
    rw [List.filter_cons, List.filter_cons, h0.1]
    split
    · exact RowR.cons h0 ih
    · exact ih
end
section
variable {B : Nat} {w : World} {br rs u lim a z : Nat} {sv : Value} {E : List En4} {R : List Rc}
set_option maxRecDepth 100000 in
theorem refWAck_far (h : RefW B w br rs u lim a z sv E R) (ack mask : Nat) (ha : u < ack) : Calls Try.prog 52 #[.pointer (some ⟨br, 0, none⟩), .int .u32 (ack : Int), .int .u32 (mask : Int)] w fun e w' => e = .returned (.int .i64 0) ∧ w' = w := by
  obtain ⟨c0, c1, c2, c3, _⟩ := h.cells
  have d0 := cells_cell (i := 0) (show w.heap[rs]? = some (spaceObj 60 u lim) from h.s) rfl
  have s1 : ((u : Int) < (ack : Int)) = True := eq_true (by omega)
  clear h ha
  go_enter Try.func52, Try.ntmps52
  go_wp2_with fail
  go_ret
  exact ⟨rfl, rfl⟩
set_option maxRecDepth 100000 in
set_option maxHeartbeats 2000000 in
theorem refWAck_any (h : RefW B w br rs u lim a z sv E R) (hB : B ≤ w.heap.size) (hR : E.length ≤ 1000) (ack mask : Nat) (ha : ack ≤ u) (ha32 : ack < 4294967296) (hm32 : mask < 4294967296) :
    Calls Try.prog 52 #[.pointer (some ⟨br, 0, none⟩), .int .u32 (ack : Int), .int .u32 (mask : Int)] w fun e w' => ∃ sv' E', E' = E.filter (fun e => !numHit ack mask e.1) ∧ e = .returned (.int .i64 ((E.length : Int) - (E'.length : Int))) ∧
      RefW B w' br rs u lim a z sv' E' (R.filter fun q => !ackHit ack mask q) ∧ StepQ B w w' := by
  obtain ⟨i1, hi1, hy0, hy1, hy2⟩ := info_parts info83
  obtain ⟨ao, cp, rfl, hcap, hcm⟩ := h.form
  obtain ⟨c0, c1, c2, c3, c4⟩ := h.cells
  have d0 := cells_cell (i := 0) (show w.heap[rs]? = some (spaceObj 60 u lim) from h.s) rfl
  have s1 : ((u : Int) < (ack : Int)) = False := eq_false (by omega)
  have HT := Lib.hid (refTold_any ack mask w ha32 hm32)
  obtain ⟨L, hL⟩ : ∃ L, L = E.length := ⟨_, rfl⟩
  have hrow := h.row
  rw [← hL] at c3 hcap hR hrow
  have H := Lib.hid (And.intro h (And.intro hL (And.intro hrow hB)))
  have hcm2 : cp ≤ 9223372036854775807 := by unfold maxLen at hcm; omega
  clear h hrow hL hcm ha ha32 hm32 hB
  go_enter Try.func52, Try.ntmps52
  go_wp2_with (go_at_call 30; refine HT.out.mono ?_; rintro e w1 ⟨tv, rfl, ht, hs⟩; obtain ⟨tq, tc, rfl⟩ := ownU_slice ht; have H1 := Lib.hid (And.intro ht hs); clear ht hs)
  clear HT c0 d0 s1 c1 c2
  go_loopw [8, 9] (fun v8 i wr => ∃ (j n c8 : Nat) (q8 : Option Addr), j ≤ L ∧ i = .int .i64 (j : Int) ∧ v8 = .slice q8 n c8 ∧ n ≤ j ∧ Hid (Step [] w1 wr ∧ ∃ EF, EF = (E.take j).filter (fun e => !numHit ack mask e.1) ∧ n = EF.length ∧ wr.ownsRow w1.heap.size 83 4 (.slice q8 n c8) n (cells4 EF))) (fun _ i wr => L - (intOf i).toNat)
  case atStart => exact ⟨0, 0, 0, none, by omega, rfl, rfl, by omega, Step.refl _ _, [], rfl, rfl, World.ownsRow_nil _ _ _ _⟩
  case round =>
    obtain ⟨j, n, c8, q8, hj, rfl, rfl, hnj, hI⟩ := hrel
    have hsw : Step [] w wr := H1.out.2.trans hI.out.1
    have k3 := step_cell hsw c3
    by_cases hlt : j < L
    · have hji : (j : Int) < (L : Int) := by omega
      obtain ⟨e, q, he, hq, e1, e2, e3, e4⟩ := H.out.1.item (i := j) (by have := H.out.2.1; omega)
      obtain ⟨g, rfl, x0, x1, x2, x3⟩ := row4_at (row_step H.out.2.2.1 hsw (by simp)) he
      obtain ⟨pq, pc, hpv, hpc, _⟩ := e4.1.form
      rw [u8s_length] at hpv hpc
      obtain ⟨pl, hpl⟩ : ∃ pl, pl = q.2.1.length := ⟨_, rfl⟩
      obtain ⟨kn, hkn⟩ : ∃ kn, kn = e.1 := ⟨_, rfl⟩
      obtain ⟨tr, htr⟩ : ∃ tr, tr = e.2.2.1 := ⟨_, rfl⟩
      obtain ⟨at', hat⟩ : ∃ at', at' = e.2.2.2 := ⟨_, rfl⟩
      rw [← hpl] at hpv hpc
      rw [hpv] at x1
      rw [← hkn] at x0
      rw [← htr] at x2
      rw [← hat] at x3
      have hbase : w1.heap.size ≤ wr.heap.size := hI.out.1.size
      have HE := Lib.hid (show e = (kn, .slice pq pl pc, tr, at') by rw [hkn, htr, hat, ← hpv])
      have HJ := Lib.hid he
      have HF := Lib.hid (has_any (.slice tq (toldL ack mask).length tc) (toldL ack mask) kn wr (OwnU.isN (show OwnU w.heap.size wr _ _ from row_step H1.out.1 hI.out.1 (by simp))))
      clear e1 e2 e3 e4 hpv hpl hkn htr hat he hq
      by_cases hge : kn < ack
      · have s2 : ((ack : Int) ≤ (kn : Int)) = False := eq_false (by omega)
        have HI2 := Lib.hid (show Step [] w1 wr ∧ ∃ EF, EF = (E.take (j + 1)).filter (fun e => !numHit ack mask e.1) ∧ n = EF.length ∧ wr.ownsRow w1.heap.size 83 4 (.slice q8 n c8) n (cells4 EF) from by
          obtain ⟨h1, EF, h2, h3, h4⟩ := hI.out
          refine ⟨h1, EF, ?_, h3, h4⟩
          rw [takeR HJ.out, List.filter_append, h2]
          simp [HE.out, numHit, hge])
        clear hI hge hsw HF
        go_wp2_with fail
        go_roundw
        case rel => exact ⟨j + 1, n, c8, q8, by omega, by go_num, rfl, by omega, HI2.out⟩
        case measure => simp [intOf]; omega
      · have s2 : ((ack : Int) ≤ (kn : Int)) = True := eq_true (by omega)
        by_cases hin : kn ∈ toldL ack mask
        · have HF2 := Lib.hid (by have := HF.out; rw [decide_eq_true hin] at this; exact this)
          have HI2 := Lib.hid (show Step [] w1 wr ∧ ∃ EF, EF = (E.take (j + 1)).filter (fun e => !numHit ack mask e.1) ∧ n = EF.length ∧ wr.ownsRow w1.heap.size 83 4 (.slice q8 n c8) n (cells4 EF) from by
            obtain ⟨h1, EF, h2, h3, h4⟩ := hI.out
            refine ⟨h1, EF, ?_, h3, h4⟩
            rw [takeR HJ.out, List.filter_append, h2]
            simp [HE.out, numHit, hin])
          clear hI hge hsw HF hin
          go_wp2_with (go_at_call 86; refine HF2.out.mono ?_; rintro e w' ⟨rfl, hw⟩; cases hw)
          go_roundw
          case rel => exact ⟨j + 1, n, c8, q8, by omega, by go_num, rfl, by omega, HI2.out⟩
          case measure => simp [intOf]; omega
        · have HF2 := Lib.hid (by have := HF.out; rw [decide_eq_false hin] at this; exact this)
          obtain ⟨h1, EF, h2, h3, h4⟩ := hI.out
          have HI2 := Lib.hid (And.intro h1 (And.intro h2 (And.intro h3 h4)))
          have HN := Lib.hid (show (E.take (j + 1)).filter (fun e => !numHit ack mask e.1) = EF ++ [(kn, .slice pq pl pc, tr, at')] from by
            rw [takeR HJ.out, List.filter_append, h2]
            simp [HE.out, numHit, hge, hin])
          clear hI hge hsw HF hin h1 h2 h3 h4
          go_wp2_with (first
            | (go_at_call 86; refine HF2.out.mono ?_; rintro e w' ⟨rfl, hw⟩; cases hw)
            | (at_builtin; refine wpList_append_own _ rfl _ _ 78 rfl w1.heap.size 83 i1 _ 4 48 Try.underlying78 hi1 hy0 hy1 hy2 rfl (by decide) (.slice q8 n c8) n (cells4 EF) rfl (HI2.out.2.2.2.alloc _) ⟨wr.heap.size, 0, none⟩ 1 1 [.int .u32 (kn : Int), .slice pq pl pc, .int .i64 (tr : Int), .int .i64 (at' : Int)] rfl rfl (new_cells4 rfl) (by simp [Value.oneCell']) (by unfold maxLen; omega) (by omega) (by simp; omega) ?_; intro v' w2 hown' hgrow _; obtain ⟨q9, c9, rfl⟩ := rowForm6 hown'; have hs2 := appended_stepP rfl HI2.out.2.2.2 hgrow; have HY := Lib.hid (And.intro hown' hs2); clear hown' hs2 hgrow))
          go_roundw
          case rel =>
            refine ⟨j + 1, n + 1, c9, q9, by omega, by go_num, rfl, by omega, ?_, EF ++ [(kn, .slice pq pl pc, tr, at')], HN.out.symm, by rw [List.length_append, HI2.out.2.2.1]; rfl, by rw [cells4_snoc]; exact HY.out.1⟩
            refine HI2.out.1.trans' HY.out.2 (fun _ h _ => h) (fun i hi hl => ?_)
            have := (row_type HI2.out.2.2.2 i hi).1
            omega
          case measure => simp [intOf]; omega
    · obtain rfl : j = L := by omega
      clear hlt hj
      have hEj : E.take j = E := List.take_of_length_le (by have := H.out.2.1; omega)
      obtain ⟨h1, EF, h2, h3, h4⟩ := hI.out
      rw [hEj] at h2
      have o1 := obj_step H.out.1.o hsw (by simp)
      have k4 := cells_frozen (i := 3) o1
      have hst : Step [br] wr (wr.setCell ⟨br, 3, none⟩ (.slice q8 n c8)) := Step.setObj o1 rfl (by simp) _ _
      have h5 : ∀ i ∈ [br], ∀ cur, wr.heap[i]? ≠ some (.cells cur 5 (0, 0)) := fun i hi cur hc => by
        simp at hi; subst hi; rw [o1] at hc; cases hc
      have HW := Lib.hid (show RefW B (wr.setCell ⟨br, 3, none⟩ (.slice q8 n c8)) br rs u lim a z (.slice q8 n c8) EF (R.filter fun q => !ackHit ack mask q) ∧ StepQ B w (wr.setCell ⟨br, 3, none⟩ (.slice q8 n c8)) from by
        have hwr := H.out.1.same hsw
        have hrow2 : wr.ownsRow B 83 4 (.slice q8 n c8) n (cells4 EF) := by
          obtain ⟨r1, r2 | ⟨g', cap', cur, r3, r4, r5⟩⟩ := h4
          · exact ⟨r1, .inl r2⟩
          · exact ⟨r1, .inr ⟨g', cap', cur, r3, by have := H.out.2.2.2; have := H1.out.2.size; omega, r5⟩⟩
        refine ⟨⟨setCell_obj o1 3 _, obj_step hwr.s hst (by simp; exact hwr.ne.symm), hwr.lo, ?_, ?_⟩, ?_⟩
        · rw [← h3]
          refine row_step hrow2 hst (fun g hg hm => ?_)
          simp at hm
          obtain ⟨_, cur, hc⟩ := row_type hrow2 g (by simp [hg])
          rw [hm, o1] at hc; cases hc
        · rw [h2]
          exact (hwr.r.step hst h5).filter (fun n => !numHit ack mask n)
        · exact (StepQ.of hsw).push hst (fun i hi => by simp at hi; subst hi; exact ⟨hwr.lo.1, .inr hwr.tyO⟩))
      have HE := Lib.hid (And.intro h2 (And.intro h3 H.out.2.1))
      clear hI hsw h1 h2 h3 h4 hEj o1 hst h5
      go_wp2_with fail
      go_ret
      refine ⟨_, EF, HE.out.1, ?_, HW.out⟩
      rw [← HE.out.2.1, ← HE.out.2.2]
      rfl
end
end Go.Proofs.Ytbainekfbonbjaa
namespace Go.Proofs.Ytbainekfbonbjaa
open Go.RowKit Go.Shelf
set_option linter.unusedVariables false
set_option linter.unusedSimpArgs false
attribute [local go_sem] Oper.semAt_some

def dueE (a z now : Nat) (e : En4) : En4 := if e.2.2.2 ≤ now then (e.1, e.2.1, e.2.2.1 + 1, now + waitN a z (e.2.2.1 + 1)) else e
def outE (a z now : Nat) (e : En4) : Option En4 := if e.2.2.2 ≤ now then some (dueE a z now e) else none
def outR (a z now : Nat) (q : Rc) : Option Rc := if q.2.2.2 ≤ now then some (dueRec a z now q) else none
def mixL {α : Type} (f : α → α) (E : List α) (j : Nat) : List α := (E.take j).map f ++ E.drop j
theorem mixL_zero {α : Type} (f : α → α) (E : List α) : mixL f E 0 = E := by simp [mixL]
theorem mixL_len {α : Type} (f : α → α) (E : List α) (j : Nat) : (mixL f E j).length = E.length := by simp [mixL]; omega
theorem mixL_all {α : Type} (f : α → α) (E : List α) {j : Nat} (h : E.length ≤ j) : mixL f E j = E.map f := by
  unfold mixL; rw [List.take_of_length_le h, List.drop_of_length_le h, List.append_nil]
theorem mixL_at {α : Type} (f : α → α) {E : List α} {j : Nat} {e : α} (h : E[j]? = some e) : (mixL f E j)[j]? = some e := by
  have hj := (List.getElem?_eq_some_iff.1 h).1
  unfold mixL
  rw [List.getElem?_append_right (by simp; omega)]
  simp
  rw [show min j E.length = j by omega, Nat.sub_self, Nat.add_zero]
  exact h
theorem mixL_next {α : Type} (f : α → α) {E : List α} {j : Nat} {e : α} (h : E[j]? = some e) : mixL f E (j + 1) = (mixL f E j).set j (f e) := by
  have hj := (List.getElem?_eq_some_iff.1 h).1
  unfold mixL
  rw [takeR h, List.map_append, List.set_append_right _ _ (by simp; omega)]
  rw [List.drop_eq_getElem_cons hj]
  have hl : j - (List.map f (List.take j E)).length = 0 := by simp; omega
  rw [hl, List.set_cons_zero, List.append_assoc]
  rfl
theorem mixL_skip {α : Type} (f : α → α) {E : List α} {j : Nat} {e : α} (h : E[j]? = some e) (hf : f e = e) : mixL f E (j + 1) = mixL f E j := by
  rw [mixL_next f h, hf]
  have h2 := mixL_at f h
  have hj := (List.getElem?_eq_some_iff.1 h2).1
  apply List.ext_getElem?
  intro i
  rw [List.getElem?_set]
  split
  · next hij => subst hij; first | exact h2.symm | (rw [if_pos hj, h2])
  · rfl
theorem cells4_set : ∀ (E : List En4) (j : Nat) (e : En4) (t a : Nat), E[j]? = some e → cells4 (E.set j (e.1, e.2.1, t, a)) = ((cells4 E).set (j * 4 + 2) (.int .i64 (t : Int))).set (j * 4 + 3) (.int .i64 (a : Int))
  | [], j, e, t, a, h => by simp at h
  | p :: T, 0, e, t, a, h => by
    simp at h
    subst h
    rfl
  | p :: T, j + 1, e, t, a, h => by
    have ih := cells4_set T j e t a (by simpa using h)
    have e1 : ∀ (p : En4) T, cells4 (p :: T) = .int .u32 (p.1 : Int) :: p.2.1 :: .int .i64 (p.2.2.1 : Int) :: .int .i64 (p.2.2.2 : Int) :: cells4 T := fun _ _ => rfl
    rw [List.set_cons_succ, e1, ih, e1, show (j + 1) * 4 + 2 = j * 4 + 2 + 1 + 1 + 1 + 1 by omega, show (j + 1) * 4 + 3 = j * 4 + 3 + 1 + 1 + 1 + 1 by omega]
    rfl
theorem row_setP {W : World} {B size n i g cap : Nat} {e : TypeId} {x : Value} {xs : List Value} (h : W.ownsRow B e size (.slice (some ⟨g, 0, none⟩) n cap) n xs) (hi : i < xs.length) (he : heldType e = false) :
    (W.setCell ⟨g, i, none⟩ x).ownsRow B e size (.slice (some ⟨g, 0, none⟩) n cap) n (xs.set i x) ∧ Step [g] W (W.setCell ⟨g, i, none⟩ x) := by
  obtain ⟨hl, ⟨h0, _⟩ | ⟨g', cap', cur, hv, hb, hg, h1, h2, h3, h4⟩⟩ := h
  · cases h0
  · cases hv
    refine ⟨⟨by rw [List.length_set]; exact hl, .inr ⟨g, cap, cur.setIfInBounds i x, rfl, hb, setCell_obj hg i x, h1, h2, by simpa using h3, ?_⟩⟩, Step.setObj hg he (by simp) _ _⟩
    rw [Array.toList_setIfInBounds, List.take_set, h4]
section
variable {B : Nat} {W W' : World} {br rs u lim a z : Nat} {E : List En4} {R : List Rc}
theorem RowR.set {j : Nat} {e : En4} {q : Rc} (h : RowR B W E R) (hs : SaysAt B W e q) : RowR B W (E.set j e) (R.set j q) :=
  ⟨by simp [h.len], fun i e' q' he hq => by
    rw [List.getElem?_set] at he hq
    by_cases hij : j = i
    · rw [if_pos hij] at he hq
      split at he
      · split at hq
        · cases he; cases hq; exact hs
        · cases hq
      · cases he
    · rw [if_neg hij] at he hq
      exact h.at_ i e' q' he hq⟩
/-- An item's tries and time are written anew. -/
theorem RefW.turn {n c g j t a2 : Nat} {e : En4} {q : Rc} (h : RefW B W br rs u lim a z (.slice (some ⟨g, 0, none⟩) n c) E R) (hn : n = E.length) (he : E[j]? = some e) (hq : R[j]? = some q) :
    ∃ W1 W2, W1 = W.setCell ⟨g, j * 4 + 2, none⟩ (.int .i64 (t : Int)) ∧ W2 = W1.setCell ⟨g, j * 4 + 3, none⟩ (.int .i64 (a2 : Int)) ∧
      W.frozen? ⟨g, j * 4 + 2, none⟩ = false ∧ W1.cell? ⟨g, j * 4 + 3, none⟩ = some (.int .i64 (e.2.2.2 : Int)) ∧ W1.frozen? ⟨g, j * 4 + 3, none⟩ = false ∧ W1.cell? ⟨br, 3, none⟩ = some (.slice (some ⟨g, 0, none⟩) n c) ∧
      RefW B W2 br rs u lim a z (.slice (some ⟨g, 0, none⟩) n c) (E.set j (e.1, e.2.1, t, a2)) (R.set j (q.1, q.2.1, t, a2)) ∧ Step [g] W W2 := by
  have hj := (List.getElem?_eq_some_iff.1 he).1
  obtain ⟨k1, k2, k3, k4⟩ := cells4_at E j e he
  have hrow := h.row
  rw [← hn] at hrow
  have hcl : j * 4 + 3 < (cells4 E).length := by rw [cells4_len]; omega
  obtain ⟨_, _, a1, _, _, _, f1⟩ := row_cell6 hrow k3
  injection a1 with a1
  injection a1 with a1
  injection a1 with a1
  subst a1
  obtain ⟨r1, s1⟩ := row_setP (x := .int .i64 (t : Int)) hrow (i := j * 4 + 2) (by omega) rfl
  obtain ⟨_, _, a2', _, _, k5, f2⟩ := row_cell6 r1 (i := j * 4 + 3) (x := .int .i64 (e.2.2.2 : Int)) (by rw [List.getElem?_set_ne (by omega)]; exact k4)
  injection a2' with a2'
  injection a2' with a2'
  injection a2' with a2'
  subst a2'
  obtain ⟨r2, s2⟩ := row_setP (x := .int .i64 (a2 : Int)) r1 (i := j * 4 + 3) (by rw [List.length_set]; omega) rfl
  obtain ⟨n1, n2⟩ := h.neR (g := g) rfl
  have hty := row_type hrow
  have hs := s1.trans s2
  have ho1 := obj_step h.o s1 (by simp; exact n1.symm)
  have h5 : ∀ i ∈ [g], ∀ cur, W.heap[i]? ≠ some (.cells cur 5 (0, 0)) := fun i hi cur hc => by
    simp at hi; subst hi
    obtain ⟨_, cur', hc'⟩ := hty i (by simp [Value.ownBlock])
    rw [hc] at hc'; cases hc'
  refine ⟨_, _, rfl, rfl, f1, k5, f2, cells_cell ho1 rfl, ⟨obj_step h.o hs (by simp; exact n1.symm), obj_step h.s hs (by simp; exact n2.symm), h.lo, ?_, ?_⟩, hs⟩
  · rw [cells4_set E j e t a2 he, List.length_set, ← hn]
    exact r2
  · obtain ⟨q1, q2, q3, q4⟩ := (h.r.step hs h5).at_ j e q he hq
    exact (h.r.step hs h5).set ⟨q1, rfl, rfl, q4⟩
/-- What is told, of items and of records. -/
theorem RowR.outs {now : Nat} : ∀ {E : List En4} {R : List Rc}, RowR B W E R → RowR B W' (E.map (dueE a z now)) (R.map (dueRec a z now)) → RowR B W' (E.filterMap (outE a z now)) (R.filterMap (outR a z now))
  | [], [], h, _ => RowR.nil
  | [], q :: R, h, _ => by have := h.len; simp at this
  | e :: E, [], h, _ => by have := h.len; simp at this
  | e :: E, q :: R, h, h' => by
    have ih := RowR.outs (now := now) h.tail h'.tail
    have h0 := h.head
    have h1 := h'.head
    rw [List.filterMap_cons, List.filterMap_cons]
    by_cases hd : e.2.2.2 ≤ now
    · rw [show outE a z now e = some (dueE a z now e) from if_pos hd, show outR a z now q = some (dueRec a z now q) from if_pos (h0.2.2.1 ▸ hd)]
      exact RowR.cons h1 ih
    · rw [show outE a z now e = none from if_neg hd, show outR a z now q = none from if_neg (h0.2.2.1 ▸ hd)]
      exact ih
end
theorem outR_tell (a z now : Nat) (R : List Rc) : R.filterMap (dueTell now) = (R.filterMap (outR a z now)).map fun q => (q.1, q.2.1, q.2.2.1) := by
  induction R with
  | nil => rfl
  | cons q t ih =>
    rw [List.filterMap_cons, List.filterMap_cons]
    by_cases h : q.2.2.2 ≤ now
    · rw [show dueTell now q = some (q.1, q.2.1, q.2.2.1 + 1) from if_pos h, show outR a z now q = some (dueRec a z now q) from if_pos h]
      simp only [List.map_cons]
      rw [ih]
      unfold dueRec dueX
      rw [if_pos h]
    · rw [show dueTell now q = none from if_neg h, show outR a z now q = none from if_neg h]
      exact ih
theorem dbl_stop {z o : Nat} (h : z ≤ o) : ∀ n, dbl z n o = o
  | 0 => rfl
  | n + 1 => by unfold dbl; rw [if_neg (by omega)]
end Go.Proofs.Ytbainekfbonbjaa
namespace Go.Proofs.Ytbainekfbonbjaa
open Go.RowKit Go.Shelf
set_option linter.unusedVariables false
set_option linter.unusedSimpArgs false
attribute [local go_sem] Oper.semAt_some

/-- What the rounds of the reference's Due keep. -/
structure DueQ (w : World) (B br rs u lim a z nc : Nat) (sv : Value) (E : List En4) (R : List Rc) (j n : Nat) (v : Value) (W : World) : Prop where
  ref : RefW B W br rs u lim a z sv (mixL (dueE a z nc) E j) (mixL (dueRec a z nc) R j)
  out : W.ownsRow w.heap.size 83 4 v n (cells4 ((E.take j).filterMap (outE a z nc)))
  len : n = ((E.take j).filterMap (outE a z nc)).length
  st : StepQ B w W
theorem RefW.stepO {B : Nat} {W W' : World} {br rs u lim a z : Nat} {sv : Value} {E : List En4} {R : List Rc} {S : List Nat} (h : RefW B W br rs u lim a z sv E R) (hs : Step S W W') (hS : ∀ i ∈ S, i ≠ br ∧ i ≠ rs ∧ sv.ownBlock ≠ some i ∧ ∀ cur, W.heap[i]? ≠ some (.cells cur 5 (0, 0))) : RefW B W' br rs u lim a z sv E R :=
  ⟨obj_step h.o hs (fun hm => (hS _ hm).1 rfl), obj_step h.s hs (fun hm => (hS _ hm).2.1 rfl), h.lo, row_step h.row hs (fun g hg hm => (hS _ hm).2.2.1 hg), h.r.step hs fun i hi => (hS i hi).2.2.2⟩
theorem DueQ.next {w wr W2 w' : World} {B br rs u lim a z nc L cp g j n kn tr at' : Nat} {pv v v' : Value} {E : List En4} {R : List Rc} {q : Rc} (h : DueQ w B br rs u lim a z nc (.slice (some ⟨g, 0, none⟩) L cp) E R j n v wr)
    (he : E[j]? = some (kn, pv, tr, at')) (hq : R[j]? = some q) (h1 : q.2.2.1 = tr) (h2 : q.2.2.2 = at') (hdue : at' ≤ nc) (hg : g < w.heap.size)
    (hRW : RefW B W2 br rs u lim a z (.slice (some ⟨g, 0, none⟩) L cp) ((mixL (dueE a z nc) E j).set j (kn, pv, tr + 1, nc + waitN a z (tr + 1))) ((mixL (dueRec a z nc) R j).set j (q.1, q.2.1, tr + 1, nc + waitN a z (tr + 1))))
    (hs2 : Step [g] wr W2) (hrow : W2.ownsRow w.heap.size 83 4 v n (cells4 ((E.take j).filterMap (outE a z nc)))) (hs4 : Step v.ownBlock.toList W2 w')
    (hown : w'.ownsRow w.heap.size 83 4 v' (n + 1) (cells4 ((E.take j).filterMap (outE a z nc)) ++ [.int .u32 (kn : Int), pv, .int .i64 ((tr + 1 : Nat) : Int), .int .i64 ((nc + waitN a z (tr + 1) : Nat) : Int)])) :
    DueQ w B br rs u lim a z nc (.slice (some ⟨g, 0, none⟩) L cp) E R (j + 1) (n + 1) v' w' := by
  have hf1 : dueE a z nc (kn, pv, tr, at') = (kn, pv, tr + 1, nc + waitN a z (tr + 1)) := if_pos hdue
  have hf2 : dueRec a z nc q = (q.1, q.2.1, tr + 1, nc + waitN a z (tr + 1)) := by unfold dueRec dueX; rw [if_pos (by rw [h2]; exact hdue), h1]
  have hf3 : (E.take (j + 1)).filterMap (outE a z nc) = (E.take j).filterMap (outE a z nc) ++ [(kn, pv, tr + 1, nc + waitN a z (tr + 1))] := by
    rw [takeR he, List.filterMap_append]
    have : outE a z nc (kn, pv, tr, at') = some (kn, pv, tr + 1, nc + waitN a z (tr + 1)) := by rw [← hf1]; exact if_pos hdue
    simp [this]
  have hty := row_type hrow
  refine ⟨?_, ?_, ?_, ?_⟩
  · rw [mixL_next _ he, mixL_next _ hq, hf1, hf2]
    refine hRW.stepO hs4 (fun i hi => ?_)
    obtain ⟨t1, cur, hc⟩ := hty i hi
    refine ⟨fun e => ?_, fun e => ?_, fun e => ?_, fun cur' hc' => ?_⟩
    · rw [e, hRW.o] at hc; cases hc
    · have h8 : W2.heap[rs]? = some (spaceObj 60 u lim) := hRW.s
      rw [e, h8] at hc; cases hc
    · have h9 : g = i := by injection e
      omega
    · rw [hc] at hc'; cases hc'
  · rw [hf3, cells4_snoc]; exact hown
  · rw [hf3, List.length_append, ← h.len]; rfl
  · refine (h.st.push hs2 (fun i hi => ?_)).push hs4 (fun i hi => ?_)
    · simp at hi
      subst hi
      exact ⟨(row_type h.ref.row i (by simp [Value.ownBlock])).1, .inr (h.ref.tyR (by simp [Value.ownBlock]))⟩
    · have h7 := (hty i hi).1
      have h8 : B ≤ g := (row_type h.ref.row g (by simp [Value.ownBlock])).1
      exact ⟨by omega, .inl h7⟩
set_option maxRecDepth 100000 in
set_option maxHeartbeats 4000000 in
theorem refWDue_any {B : Nat} {w : World} {br rs u lim a z : Nat} {sv : Value} {E : List En4} {R : List Rc} (h : RefW B w br rs u lim a z sv E R) (hB : B ≤ w.heap.size) (haz : 1 ≤ a ∧ a ≤ z ∧ z ≤ 1099511627776) (hR : E.length ≤ 255)
    (hT : ∀ q ∈ R, q.2.2.1 < 1000000) (now : Int) (nc : Nat) (hnc : (nc : Int) = max (min now 1099511627776) 0) :
    Calls Try.prog 50 #[.pointer (some ⟨br, 0, none⟩), .int .i64 now] w fun e w' => ∃ v n, e = .returned v ∧ DueQ w B br rs u lim a z nc sv E R E.length n v w' := by
  obtain ⟨i1, hi1, hy0, hy1, hy2⟩ := info_parts info83
  obtain ⟨ao, cp, rfl, hcap, hcm⟩ := h.form
  obtain ⟨L, hL⟩ : ∃ L, L = E.length := ⟨_, rfl⟩
  have HAZ := Lib.hid haz
  have HNC := Lib.hid hnc
  have H := Lib.hid (And.intro h (And.intro hL (And.intro hB hT)))
  rw [← hL] at hcap hR ⊢
  have hcm2 : cp ≤ 9223372036854775807 := by unfold maxLen at hcm; omega
  clear h hB haz hT hcm hL
  go_enter Try.func50, Try.ntmps50
  obtain ⟨n0, hn0⟩ : ∃ n0 : Nat, (n0 : Int) = max now 0 := ⟨(max now 0).toNat, by omega⟩
  have HN0 := Lib.hid hn0
  go_upto_if 10 with fail
  go_cut [1] from 9 (fun s1 wc => s1 = .int .i64 (n0 : Int) ∧ wc = w)
  case first =>
    clear hnc hn0
    go_wp2_with fail
    · go_meet
      case rel => exact ⟨by congr 1; have := HN0.out; omega, rfl⟩
    · go_meet
      case rel => exact ⟨by congr 1; have := HN0.out; omega, rfl⟩
  case rest =>
    obtain ⟨rfl, hw⟩ := hcut
    subst wc
    have hn2 : (nc : Int) = min (n0 : Int) 1099511627776 := by omega
    have HN2 := Lib.hid hn2
    clear hnc hn0 HN0 HNC hn2
    go_upto_if 12 with fail
    go_cut [1] from 9 (fun s1 w2 => s1 = .int .i64 (nc : Int) ∧ w2 = w)
    case first =>
      go_wp2_with fail
      · go_meet
        case rel => exact ⟨by congr 1; have := HN2.out; omega, rfl⟩
      · go_meet
        case rel => exact ⟨by congr 1; have := HN2.out; omega, rfl⟩
    case rest =>
      obtain ⟨rfl, hw⟩ := hcut
      subst wc
      have HNB := Lib.hid (And.intro (show L = L from rfl) (show nc ≤ 1099511627776 by have := HN2.out; omega))
      clear HN2
      obtain ⟨_, _, _, c3, _⟩ := H.out.1.cells
      go_wp2_with fail
      go_loopw [5, 6] (fun v5 i wr => ∃ (j n5 c5 : Nat) (q5 : Option Addr), j ≤ L ∧ i = .int .i64 (j : Int) ∧ v5 = .slice q5 n5 c5 ∧ n5 ≤ j ∧ Hid (DueQ w B br rs u lim a z nc (.slice ao L cp) E R j n5 (.slice q5 n5 c5) wr)) (fun _ i wr => L - (intOf i).toNat)
      case atStart =>
        refine ⟨0, 0, 0, none, by omega, rfl, rfl, by omega, ?_, World.ownsRow_nil _ _ _ _, rfl, StepQ.of (Step.refl _ _)⟩
        rw [mixL_zero, mixL_zero, H.out.2.1]
        exact H.out.1
      case round =>
        clear c3
        obtain ⟨j, n5, c5, q5, hj, rfl, rfl, hnj, hI⟩ := hrel
        have hsz := hI.out.st.size
        have hEl : (mixL (dueE a z nc) E j).length = L := by rw [mixL_len, H.out.2.1]
        obtain ⟨k0, k1, k2, k3, k4⟩ := hI.out.ref.cells
        by_cases hlt : j < L
        · have hji : (j : Int) < (L : Int) := by omega
          obtain ⟨e, q, he, hq, e1, e2, e3, e4⟩ := H.out.1.item (i := j) (by have := H.out.2.1; omega)
          have hrow := hI.out.ref.row
          rw [hEl] at hrow
          have hme := mixL_at (dueE a z nc) he
          have hmq := mixL_at (dueRec a z nc) hq
          obtain ⟨g, rfl, x0, x1, x2, x3⟩ := row4_at hrow hme
          obtain ⟨pq, pc, hpv, hpc, hpm⟩ := e4.1.form
          rw [u8s_length] at hpv hpc
          obtain ⟨pl, hpl⟩ : ∃ pl, pl = q.2.1.length := ⟨_, rfl⟩
          obtain ⟨kn, hkn⟩ : ∃ kn, kn = e.1 := ⟨_, rfl⟩
          obtain ⟨tr, htr⟩ : ∃ tr, tr = e.2.2.1 := ⟨_, rfl⟩
          obtain ⟨at', hat⟩ : ∃ at', at' = e.2.2.2 := ⟨_, rfl⟩
          have HTB := Lib.hid (And.intro (show pl = q.2.1.length from hpl) (show tr < 1000000 by have := H.out.2.2.2 q (List.mem_of_getElem? hq); omega))
          rw [← hpl] at hpv hpc
          rw [hpv] at x1
          rw [← hkn] at x0
          rw [← htr] at x2
          rw [← hat] at x3
          have HE := Lib.hid (show e = (kn, .slice pq pl pc, tr, at') by rw [hkn, htr, hat, ← hpv])
          have HJ := Lib.hid (And.intro he (And.intro hq (And.intro hme (And.intro hmq (And.intro hEl hrow)))))
          have HQ := Lib.hid (show q.2.2.1 = tr ∧ q.2.2.2 = at' by rw [htr, hat]; exact ⟨e2.symm, e3.symm⟩)
          clear e1 e2 e3 e4 hpv hpl hkn htr hat he hq hme hmq hEl hrow hpm
          by_cases hdue : nc < at'
          · have s1 : ((nc : Int) < (at' : Int)) = True := eq_true (by omega)
            have HS := Lib.hid (show DueQ w B br rs u lim a z nc (.slice (some ⟨g, 0, none⟩) L cp) E R (j + 1) n5 (.slice q5 n5 c5) wr from by
              obtain ⟨h1, h2, h3, h4⟩ := hI.out
              have f1 : dueE a z nc e = e := by rw [HE.out]; exact if_neg (by show ¬ at' ≤ nc; omega)
              have f2 : dueRec a z nc q = q := by unfold dueRec dueX; rw [if_neg (by rw [HQ.out.2]; omega)]
              have f3 : (E.take (j + 1)).filterMap (outE a z nc) = (E.take j).filterMap (outE a z nc) := by
                rw [takeR HJ.out.1, List.filterMap_append]
                have : outE a z nc e = none := by rw [HE.out]; exact if_neg (by show ¬ at' ≤ nc; omega)
                simp [this]
              refine ⟨?_, ?_, ?_, h4⟩
              · rw [mixL_skip _ HJ.out.1 f1, mixL_skip _ HJ.out.2.1 f2]; exact h1
              · rw [f3]; exact h2
              · rw [f3]; exact h3)
            clear hI hdue hsz
            go_wp2_with fail
            go_roundw
            case rel => exact ⟨j + 1, n5, c5, q5, by omega, by go_num, rfl, by omega, HS.out⟩
            case measure => simp [intOf]; omega
          · have s1 : ((nc : Int) < (at' : Int)) = False := eq_false (by omega)
            have HD := Lib.hid (And.intro hI.out (And.intro hdue hsz))
            clear hI hdue hsz
            go_upto_block 2 with fail
            clear s1
            go_cut [7] from 20 to 98 (fun s7 wx => ∃ o : Nat, s7 = .int .i64 (o : Int) ∧ Hid (o = dbl z tr a) ∧ wx = wr)
            case first =>
              go_wp2_with fail
              go_loopw [7, 8] (fun v7 v8 wx => ∃ k o : Nat, v8 = .int .i64 (k : Int) ∧ v7 = .int .i64 (o : Int) ∧ wx = wr ∧ k ≤ tr ∧ Hid (dbl z (tr - k) o = dbl z tr a ∧ o ≤ 2 * z)) (fun _ v8 _ => tr - (intOf v8).toNat)
              case atStart => exact ⟨0, a, rfl, rfl, rfl, by omega, by rw [Nat.sub_zero], by have := HAZ.out; omega⟩
              case round =>
                obtain ⟨k, o, rfl, rfl, rfl, hk, hJ⟩ := hrel
                by_cases hk2 : k < tr
                · have s1 : ((k : Int) < (tr : Int)) = True := eq_true (by omega)
                  by_cases ho : o < z
                  · have s2 : ((o : Int) < (z : Int)) = True := eq_true (by omega)
                    have w2 : IntKind.i64.wrap (2 * (o : Int)) = ((2 * o : Nat) : Int) := by rw [IntKind.wrap_i64]; have := HAZ.out; omega
                    have w3 : IntKind.i64.wrap ((k : Int) + 1) = ((k + 1 : Nat) : Int) := by rw [IntKind.wrap_i64]; have := HTB.out.2; omega
                    have HO := Lib.hid (show dbl z (tr - (k + 1)) (2 * o) = dbl z tr a ∧ 2 * o ≤ 2 * z from by
                      obtain ⟨h1, h2⟩ := hJ.out
                      refine ⟨?_, by omega⟩
                      rw [← h1, show tr - k = (tr - (k + 1)) + 1 by omega]
                      conv => rhs; unfold dbl
                      rw [if_pos ho])
                    clear hJ ho
                    go_wp2_with fail
                    go_roundw
                    case rel => exact ⟨k + 1, 2 * o, rfl, rfl, trivial, by omega, HO.out⟩
                    case measure => simp [intOf]; omega
                  · have s2 : ((o : Int) < (z : Int)) = False := eq_false (by omega)
                    have HO := Lib.hid (show o = dbl z tr a from by
                      obtain ⟨h1, h2⟩ := hJ.out
                      rw [← h1, dbl_stop (by omega)])
                    clear hJ ho
                    go_wp2_with fail
                    go_meet
                    case rel => exact ⟨o, rfl, HO, rfl⟩
                · have s1 : ((k : Int) < (tr : Int)) = False := eq_false (by omega)
                  have HO := Lib.hid (show o = dbl z tr a from by
                    obtain ⟨h1, h2⟩ := hJ.out
                    rw [← h1, show tr - k = 0 by omega]; rfl)
                  clear hJ
                  go_wp2_with fail
                  go_meet
                  case rel => exact ⟨o, rfl, HO, rfl⟩
            case rest =>
              obtain ⟨o, rfl, HO, hw⟩ := hcut
              subst wc
              obtain ⟨wt, hwt⟩ : ∃ wt, wt = waitN a z (tr + 1) := ⟨_, rfl⟩
              have HWT := Lib.hid (And.intro hwt (show wt = min o z by rw [hwt, HO.out]; rfl))
              clear hwt
              go_upto_if 63 with fail
              go_cut [7] from 20 to 98 (fun s7 w2 => s7 = .int .i64 (wt : Int) ∧ w2 = wr)
              case first =>
                go_wp2_with fail
                · go_meet
                  case rel => exact ⟨by congr 1; have := HWT.out.2; omega, rfl⟩
                · go_meet
                  case rel => exact ⟨by congr 1; have := HWT.out.2; omega, rfl⟩
              case rest =>
                obtain ⟨rfl, hw⟩ := hcut
                subst wc
                obtain ⟨t1, ht1⟩ : ∃ t1 : Nat, t1 = tr + 1 := ⟨_, rfl⟩
                have w4 : IntKind.i64.wrap ((tr : Int) + 1) = (t1 : Int) := by rw [IntKind.wrap_i64]; have := HTB.out.2; omega
                obtain ⟨at2, hat2⟩ : ∃ at2 : Nat, at2 = nc + wt := ⟨_, rfl⟩
                have w5 : IntKind.i64.wrap ((nc : Int) + (wt : Int)) = (at2 : Int) := by rw [IntKind.wrap_i64]; have := HNB.out.2; have := HWT.out.2; have := HAZ.out; omega
                have HT := Lib.hid (And.intro ht1 hat2)
                have hm1 := HJ.out.2.2.1
                rw [HE.out] at hm1
                obtain ⟨W1, W2, hW1, hW2, f1, k5, f2, k6, hRW, hs2⟩ := HD.out.1.ref.turn (t := t1) (a2 := at2) HJ.out.2.2.2.2.1.symm hm1 HJ.out.2.2.2.1
                dsimp only at k5
                have hj4 := hm1
                have hro := hRW.row
                rw [List.length_set, HJ.out.2.2.2.2.1] at hro
                obtain ⟨g', hg', y0, y1, y2, y3⟩ := row4_at (i := j) hro (by rw [List.getElem?_set_self (by rw [HJ.out.2.2.2.2.1]; exact hlt)])
                injection hg' with hg'
                injection hg' with hg'
                subst hg'
                dsimp only at y0 y1 y2 y3
                have y4 := hRW.cells.2.2.2.1
                have hgw : g < w.heap.size := by
                  obtain ⟨_, cur, hc⟩ := row_type H.out.1.row g (by simp [Value.ownBlock])
                  exact heap_lt hc
                have hout : W2.ownsRow w.heap.size 83 4 (.slice q5 n5 c5) n5 (cells4 ((E.take j).filterMap (outE a z nc))) := row_step HD.out.1.out hs2 (fun gg hgg hm => by
                  simp at hm
                  have h6 := (row_type HD.out.1.out gg (by simp [hgg])).1
                  omega)
                have hbase : w.heap.size ≤ W2.heap.size := by have := HD.out.2.2; have := hs2.size; omega
                have HO2 := Lib.hid (And.intro hout (And.intro hRW (And.intro hs2 hgw)))
                clear ht1 hat2 hm1 hout hRW hs2 hgw hj4 hro x3 k0 k1 k2 k4
                go_upto_region 18 with fail
                rw [← hW1]
                clear hW1 f1 x2 k3 x0 x1 w4
                go_upto_region 19 with fail
                rw [← hW2]
                clear hW2 f2 k5 k6 w5
                go_wp2_with (at_builtin; refine wpList_append_own _ rfl _ _ 78 rfl w.heap.size 83 i1 _ 4 48 Try.underlying78 hi1 hy0 hy1 hy2 rfl (by decide) (.slice q5 n5 c5) n5 (cells4 ((E.take j).filterMap (outE a z nc))) rfl (HO2.out.1.alloc _) ⟨W2.heap.size, 0, none⟩ 1 1 [.int .u32 (kn : Int), .slice pq pl pc, .int .i64 (t1 : Int), .int .i64 (at2 : Int)] rfl rfl (new_cells4 rfl) (by simp [Value.oneCell']) (by unfold maxLen; omega) (by omega) (by simp; omega) ?_; intro v' w4 hown' hgrow _; obtain ⟨q9, c9, rfl⟩ := rowForm6 hown'; have hs4 := appended_stepP rfl HO2.out.1 hgrow; have HY := Lib.hid (And.intro hown' hs4); clear hown' hs4 hgrow)
                go_roundw
                case rel =>
                  refine ⟨j + 1, n5 + 1, c9, q9, by omega, by go_num, rfl, by omega, ?_⟩
                  obtain ⟨ht1, hat2⟩ := HT.out
                  have hwt := HWT.out.1
                  have hRW := HO2.out.2.1
                  have hown := HY.out.1
                  dsimp only at hRW
                  rw [hat2, ht1, hwt] at hRW hown
                  exact DueQ.next HD.out.1 (by rw [HJ.out.1, HE.out]) HJ.out.2.1 HQ.out.1 HQ.out.2 (by have := HD.out.2.1; omega) HO2.out.2.2.2 hRW HO2.out.2.2.1 HO2.out.1 HY.out.2 hown
                case measure => simp [intOf]; omega
        · obtain rfl : j = L := by omega
          clear hlt hj
          have HS := Lib.hid hI.out
          clear hI hsz hEl
          go_wp2_with fail
          go_ret
          exact ⟨_, _, rfl, HS.out⟩
end Go.Proofs.Ytbainekfbonbjaa
namespace Go.Proofs.Ytbainekfbonbjaa
open Go.RowKit Go.Shelf
set_option linter.unusedVariables false
set_option linter.unusedSimpArgs false

/-! ### What a call may turn -/
def TameO (o : Obj) : Prop := (∃ es c, o = .map es c) ∨ ∃ cur e, o = .cells cur e (0, 0) ∧ (e = 92 ∨ e = 89 ∨ e = 83 ∨ e = 60)
def Tame (w W W' : World) : Prop := ∃ S, Step S W W' ∧ ∀ i ∈ S, w.heap.size ≤ i ∧ ∀ o, W.heap[i]? = some o → TameO o
theorem tameO_cells {cur : Array Value} {e : TypeId} {fr : Nat × Nat} (he : e ≠ 92 ∧ e ≠ 89 ∧ e ≠ 83 ∧ e ≠ 60) : ¬ TameO (.cells cur e fr) := by
  rintro (⟨es, c, h⟩ | ⟨c, e', h, h2⟩)
  · cases h
  · injection h with q1 q2 q3
    subst q2
    rcases h2 with h | h | h | h
    · exact he.1 h
    · exact he.2.1 h
    · exact he.2.2.1 h
    · exact he.2.2.2 h
section
variable {w W W1 W' : World}
theorem Tame.of (h : Step [] W W') : Tame w W W' := ⟨[], h, by simp⟩
theorem Tame.push {S' : List Nat} (h : Tame w W W1) (hs : Step S' W1 W') (hS : ∀ i ∈ S', w.heap.size ≤ i ∧ ∀ o, W1.heap[i]? = some o → TameO o) : Tame w W W' := by
  obtain ⟨S, h1, h2⟩ := h
  refine ⟨S ++ S', h1.trans' hs (fun i hi _ => List.mem_append_left _ hi) (fun i hi _ => List.mem_append_right _ hi), fun i hi => ?_⟩
  by_cases hm : i ∈ S
  · exact h2 i hm
  · have hi' := (List.mem_append.1 hi).resolve_left hm
    exact ⟨(hS i hi').1, fun o ho => (hS i hi').2 o ((h1.same i (heap_lt ho) hm).trans ho)⟩
theorem Tame.trans (h : Tame w W W1) (h' : Tame w W1 W') : Tame w W W' := by
  obtain ⟨S, h1, h2⟩ := h'
  exact h.push h1 h2
theorem Tame.same (h : Tame w W W1) (hs : Step [] W1 W') : Tame w W W' := h.trans (.of hs)
theorem Tame.st (h0 : Step [] w W) (h : Tame w W W') : Step [] w W' := by
  obtain ⟨S, h1, h2⟩ := h
  exact h0.trans' h1 (fun i hi _ => hi) (fun i hi hl => by have := (h2 i hi).1; omega)
theorem Tame.obj {i : Nat} {o : Obj} (h : Tame w W W') (ho : W.heap[i]? = some o) (ht : ¬ TameO o) : W'.heap[i]? = some o := by
  obtain ⟨S, h1, h2⟩ := h
  exact obj_step ho h1 (fun hm => ht ((h2 i hm).2 o ho))
theorem Tame.ofQ (h : StepQ w.heap.size W W') : Tame w W W' := by
  obtain ⟨S, h1, h2⟩ := h
  refine ⟨S, h1, fun i hi => ⟨(h2 i hi).1, fun o ho => ?_⟩⟩
  obtain ⟨cur, e, he, h3⟩ := (h2 i hi).2 o ho
  exact .inr ⟨cur, e, he, by rcases h3 with h | h | h <;> simp [h]⟩
theorem Tame.size (h : Tame w W W') : W.heap.size ≤ W'.heap.size := by obtain ⟨S, h1, _⟩ := h; exact h1.size
theorem KeptA.tame {B k : Nat} {v : Value} {V : Nat → Nat → Value} (h : KeptA B W v k V) (hs : Tame w W W') : KeptA B W' v k V := by
  obtain ⟨S, h1, h2⟩ := hs
  exact h.step h1 (fun i hi cur hc => tameO_cells (by decide) ((h2 i hi).2 _ hc))
theorem OwnAt.tame {B : Nat} {v : Value} {vals : List Value} (h : OwnAt B W 5 v vals) (hs : Tame w W W') : OwnAt B W' 5 v vals := by
  obtain ⟨S, h1, h2⟩ := hs
  exact h.apart6 h1 (fun i hi cur hc => tameO_cells (by decide) ((h2 i hi).2 _ hc))
end
section
variable {B B' : Nat} {w W W' : World} {b sp bm br rs u u2 lim l2 a z a2 z2 : Nat} {M : Ents} {g : Kept6} {sv : Value} {E : List En4} {R : List Rc}
theorem Tame.ofW (h : WinM w.heap.size W b sp bm u lim a z M g) (hs : Step [sp, bm] W W') : Tame w W W' :=
  ⟨_, hs, fun i hi => by
    simp at hi
    rcases hi with rfl | rfl
    · refine ⟨h.lo.2.1, fun o ho => ?_⟩
      have h1 : W.heap[i]? = some (spaceObj 92 u lim) := h.s
      rw [h1] at ho; cases ho
      exact .inr ⟨_, _, rfl, .inl rfl⟩
    · refine ⟨h.lo.2.2, fun o ho => ?_⟩
      obtain ⟨es, c, hb⟩ := h.m.block
      rw [hb] at ho; cases ho
      exact .inl ⟨_, _, rfl⟩⟩
theorem step_bm (hs : Step [bm] W W') : Step [sp, bm] W W' := hs.mono (fun i hi _ => by simp at hi ⊢; exact .inr hi)
theorem WinM.overQ (h : WinM B W b sp bm u lim a z M g) (hq : StepQ B' W W') : WinM B W' b sp bm u lim a z M g := by
  obtain ⟨S, h1, h2⟩ := hq
  refine h.step h1 (fun i hi => ⟨fun e => ?_, fun e => ?_, fun e => ?_, refTy6_not (h2 i hi).2 (by decide)⟩)
  · have ho := h.o
    rw [← e] at ho
    obtain ⟨c, t, h3, h4⟩ := (h2 i hi).2 _ ho
    unfold winObj at h3
    injection h3 with q1 q2 q3
    subst q2
    rcases h4 with h | h | h <;> cases h
  · have ho : W.heap[sp]? = some (spaceObj 92 u lim) := h.s
    rw [← e] at ho
    obtain ⟨c, t, h3, h4⟩ := (h2 i hi).2 _ ho
    unfold spaceObj at h3
    injection h3 with q1 q2 q3
    subst q2
    rcases h4 with h | h | h <;> cases h
  · obtain ⟨es, c, hb⟩ := h.m.block
    rw [← e] at hb
    exact refTy6_map (h2 i hi).2 _ _ hb
theorem RefW.overW (h : RefW B W br rs u lim a z sv E R) (hw : WinM B' W b sp bm u2 l2 a2 z2 M g) (hs : Step [sp, bm] W W') : RefW B W' br rs u lim a z sv E R := by
  have h2 : W.heap[rs]? = some (spaceObj 60 u lim) := h.s
  have h3 : W.heap[sp]? = some (spaceObj 92 u2 l2) := hw.s
  obtain ⟨es, c, hb⟩ := hw.m.block
  refine h.step hs (fun i hi => ?_)
  simp at hi
  rcases hi with rfl | rfl
  · refine ⟨fun e => ?_, fun e => ?_, fun cur hc => ?_, fun cur hc => ?_⟩
    · rw [e, h.o] at h3; cases h3
    · rw [e, h2] at h3; cases h3
    · rw [h3] at hc; cases hc
    · rw [h3] at hc; cases hc
  · refine ⟨fun e => ?_, fun e => ?_, fun cur hc => ?_, fun cur hc => ?_⟩
    · rw [e, h.o] at hb; cases hb
    · rw [e, h2] at hb; cases hb
    · rw [hb] at hc; cases hc
    · rw [hb] at hc; cases hc
theorem WinM.poke {go : Nat} {cur : Array Value} (h : WinM B W b sp bm u lim a z M g) (hs : Step [go] W W') (hg : W.heap[go]? = some (.cells cur 5 (0, 0))) (hp : ∀ q ∈ M, payB q.2 ≠ some go) : WinM B W' b sp bm u lim a z M g := by
  obtain ⟨es, c, hb⟩ := h.m.block
  have hsp : W.heap[sp]? = some (spaceObj 92 u lim) := h.s
  refine ⟨obj_step h.o hs (fun hm => ?_), obj_step h.s hs (fun hm => ?_), h.lo, h.m.keep hs (fun hm => ?_), h.r.mono fun k v x hm hi => ?_, h.ul, h.az, h.kb⟩
  · simp at hm
    have ho := h.o
    rw [hm, hg] at ho; cases ho
  · simp at hm
    rw [hm, hg] at hsp; cases hsp
  · simp at hm
    rw [hm, hg] at hb; cases hb
  · obtain ⟨pl, rfl, h2⟩ := hi
    exact ⟨pl, rfl, h2.1.step hs (fun gg hgg hmm => by simp at hmm; exact hp _ hm (by rw [← hmm]; exact hgg)), h2.2⟩
theorem RefW.poke {go : Nat} {cur : Array Value} (h : RefW B W br rs u lim a z sv E R) (hs : Step [go] W W') (hg : W.heap[go]? = some (.cells cur 5 (0, 0))) (hp : ∀ e ∈ E, e.2.1.ownBlock ≠ some go) : RefW B W' br rs u lim a z sv E R := by
  have h2 : W.heap[rs]? = some (spaceObj 60 u lim) := h.s
  refine ⟨obj_step h.o hs (fun hm => ?_), obj_step h.s hs (fun hm => ?_), h.lo, row_step h.row hs (fun g hgg hm => ?_), ⟨h.r.len, fun i e q he hq => ?_⟩⟩
  · simp at hm
    have ho := h.o
    rw [hm, hg] at ho; cases ho
  · simp at hm
    rw [hm, hg] at h2; cases h2
  · simp at hm
    obtain ⟨_, c, hc⟩ := row_type h.row g (by simp [hgg])
    rw [hm, hg] at hc; cases hc
  · obtain ⟨e1, e2, e3, e4⟩ := h.r.at_ i e q he hq
    exact ⟨e1, e2, e3, e4.1.step hs (fun gg hgg hmm => by simp at hmm; exact hp _ (List.mem_of_getElem? he) (by rw [← hmm]; exact hgg)), e4.2⟩
end
/-- Both windows. -/
structure PlAt (w : World) (b sp bm br rs u lim a z c : Nat) (M : Ents) (g : Kept6) (sv : Value) (E : List En4) (iv : Value) (N : Nat) (V : Nat → Nat → Value) (W : World) : Prop where
  win : WinM w.heap.size W b sp bm u lim a z M g
  ref : RefW w.heap.size W br rs u lim a z sv E (recs g u)
  st : Step [] w W
  n : M.length ≤ 16
  tr : ∀ k x, g k = some x → x.2.1 ≤ c
  ka : KeptA w.heap.size W iv N V
section
variable {w W W' : World} {b sp bm br rs u lim a z c : Nat} {M : Ents} {g : Kept6} {sv : Value} {E : List En4} {iv : Value} {N : Nat} {V : Nat → Nat → Value}
theorem PlAt.same (h : PlAt w b sp bm br rs u lim a z c M g sv E iv N V W) (hs : Step [] W W') : PlAt w b sp bm br rs u lim a z c M g sv E iv N V W' :=
  ⟨h.win.same hs, h.ref.same hs, h.st.trans hs, h.n, h.tr, h.ka.same hs⟩
theorem PlAt.more (h : PlAt w b sp bm br rs u lim a z c M g sv E iv N V W) : PlAt w b sp bm br rs u lim a z (c + 1) M g sv E iv N V W :=
  ⟨h.win, h.ref, h.st, h.n, fun k x hx => by have := h.tr k x hx; omega, h.ka⟩
theorem PlAt.len (h : PlAt w b sp bm br rs u lim a z c M g sv E iv N V W) : E.length = M.length := by rw [h.ref.r.len, recs_len, h.win.len]
theorem PlAt.lowM (h : PlAt w b sp bm br rs u lim a z c M g sv E iv N V W) : ∀ q ∈ M, ∀ gg, payB q.2 = some gg → gg < W.heap.size := fun q hq gg hgg => by
  obtain ⟨x, hx, pl, hv, hp⟩ := h.win.r.to q.1 q.2 hq
  rw [hv] at hgg
  exact (hp.1.block hgg).2.1
theorem PlAt.lowE (h : PlAt w b sp bm br rs u lim a z c M g sv E iv N V W) : ∀ e ∈ E, ∀ gg, e.2.1.ownBlock = some gg → gg < W.heap.size := fun e he gg hgg => by
  obtain ⟨i, hi⟩ := List.mem_iff_getElem?.1 he
  obtain ⟨e', q, h1, h2, _, _, _, h3⟩ := h.ref.item (i := i) (List.getElem?_eq_some_iff.1 hi).1
  rw [hi] at h1
  injection h1 with h1
  subst h1
  exact (h3.1.block hgg).2.1
theorem PlAt.poke {go : Nat} {cur : Array Value} (h : PlAt w b sp bm br rs u lim a z c M g sv E iv N V W) (hs : Step [go] W W') (hlo : w.heap.size ≤ go) (hg : W.heap[go]? = some (.cells cur 5 (0, 0))) (hp : ∀ q ∈ M, payB q.2 ≠ some go) (hp' : ∀ e ∈ E, e.2.1.ownBlock ≠ some go) :
    PlAt w b sp bm br rs u lim a z c M g sv E iv N V W' :=
  ⟨h.win.poke hs hg hp, h.ref.poke hs hg hp', h.st.trans' hs (fun _ h _ => h) (fun i hi hl => by simp at hi; omega), h.n, h.tr, h.ka.step hs (fun i hi cur' hc => by simp at hi; subst hi; rw [hg] at hc; cases hc)⟩
/-- What a put leaves on both sides. -/
def PutEnd (w : World) (br rs lim a z c b sp bm : Nat) (M : Ents) (E : List En4) (iv : Value) (N : Nat) (V : Nat → Nat → Value) (W W' : World) : Prop :=
  ∃ u' M' g' sv' E', PlAt w b sp bm br rs u' lim a z c M' g' sv' E' iv N V W' ∧ Tame w W W' ∧ PayNew M M' W.heap.size ∧ ∀ e ∈ E', (∃ e0 ∈ E, e.2.1.ownBlock = e0.2.1.ownBlock) ∨ ∀ gg, e.2.1.ownBlock = some gg → W.heap.size ≤ gg
theorem PlAt.still (h : PlAt w b sp bm br rs u lim a z c M g sv E iv N V W) (hs : Step [] W W') : PutEnd w br rs lim a z c b sp bm M E iv N V W W' :=
  ⟨u, M, g, sv, E, h.same hs, Tame.of hs, fun q hq => .inl ⟨q, hq, rfl⟩, fun e he => .inl ⟨e, he, rfl⟩⟩
theorem PlAt.put {q1 q2 : Option Addr} {n c1 c2 : Nat} {p : List Nat} (h : PlAt w b sp bm br rs u lim a z c M g sv E iv N V W) (hpn : n = p.length) (hp : ∀ x ∈ p, x < 256) (hr1 : Reads W (.slice q1 n c1) (u8s p)) (hr2 : Reads w (.slice q2 n c2) (u8s p)) (now : Int) :
    ∃ (nn ff : Nat) (P : World → Prop), Calls Try.prog 47 #[.pointer (some ⟨b, 0, none⟩), .slice q1 n c1, .int .i64 now] W (fun e w1 => e = .returned (.tuple #[.int .u32 (nn : Int), .int .i64 (ff : Int)]) ∧ P w1) ∧
      ∀ w1, P w1 → Tame w W w1 ∧ Calls Try.prog 48 #[.pointer (some ⟨br, 0, none⟩), .slice q2 n c2, .int .i64 now] w1 (fun e w2 => e = .returned (.tuple #[.int .u32 (nn : Int), .int .i64 (ff : Int)]) ∧ PutEnd w br rs lim a z c b sp bm M E iv N V W w2 ∧ Tame w w1 w2) := by
  have hul := h.win.ul
  by_cases hbad : now < 0 ∨ 1099511627776 < now
  · refine ⟨0, 1, fun w1 => W = w1, (put6_arg h.win _ now hbad), fun w1 e => ?_⟩
    subst e
    refine ⟨.of (Step.refl _ _), (refWPut_arg _ now hbad).mono ?_⟩
    rintro e w2 ⟨rfl, rfl⟩
    exact ⟨rfl, h.still (Step.refl _ _), .of (Step.refl _ _)⟩
  · obtain ⟨t, rfl⟩ := Int.eq_ofNat_of_zero_le (show 0 ≤ now by omega)
    have ht : t ≤ 1099511627776 := by omega
    by_cases hlong : 256 < n
    · refine ⟨0, 3, fun w1 => W = w1, (put6_long h.win q1 n c1 t ht hlong), fun w1 e => ?_⟩
      subst e
      refine ⟨.of (Step.refl _ _), (refWPut_long q2 n c2 t ht hlong).mono ?_⟩
      rintro e w2 ⟨rfl, rfl⟩
      exact ⟨rfl, h.still (Step.refl _ _), .of (Step.refl _ _)⟩
    · by_cases hfull : 16 ≤ M.length
      · refine ⟨0, 8, fun w1 => W = w1, (put6_busy h.win q1 n c1 t ht (by omega) hfull), fun w1 e => ?_⟩
        subst e
        refine ⟨.of (Step.refl _ _), (refWPut_busy h.ref q2 n c2 t ht (by omega) (by rw [h.len]; exact hfull)).mono ?_⟩
        rintro e w2 ⟨rfl, rfl⟩
        exact ⟨rfl, h.still (Step.refl _ _), .of (Step.refl _ _)⟩
      · by_cases hu : u = lim
        · refine ⟨0, 7, fun w1 => Step [] W w1, (put6_full h.win q1 n c1 t ht (by omega) (by omega) hu), fun w1 hs => ?_⟩
          refine ⟨.of hs, (refWPut_full (h.ref.same hs) (by omega) q2 n c2 t ht (by omega) (by rw [h.len]; omega) hu).mono ?_⟩
          rintro e w2 ⟨rfl, hs2⟩
          exact ⟨rfl, h.still (hs.trans hs2), .of hs2⟩
        · refine ⟨u, 0, fun w1 => ∃ M', WinM w.heap.size w1 b sp bm (u + 1) lim a z M' (setG g u (some (p, 0, t))) ∧ M'.length = M.length + 1 ∧ Step [sp, bm] W w1 ∧ PayNew M M' W.heap.size,
            put6_new h.win h.st.size q1 c1 t p n hpn hp hr1 ht (by omega) (by omega) (by omega), fun w1 hP => ?_⟩
          obtain ⟨M', g1, g2, g3, g4⟩ := hP
          have hT := Tame.ofW h.win g3
          have hst := Tame.st h.st hT
          refine ⟨hT, (refWPut_ok (h.ref.overW h.win g3) (by have := h.st.size; have := g3.size; omega) (by omega) q2 c2 t p n hpn hp (hr2.same hst) ht (by omega) (by rw [h.len]; omega) (by omega)).mono ?_⟩
          rintro e w2 ⟨rfl, sv', pv, r1, r2, r3⟩
          have hT2 := Tame.ofQ r3
          refine ⟨rfl, ⟨u + 1, M', _, sv', _, ⟨g1.overQ r3, by rw [recs_put]; exact r1, Tame.st hst hT2, by omega, fun k x hx => ?_, (h.ka.tame hT).tame hT2⟩, hT.trans hT2, g4, fun e he => ?_⟩, hT2⟩
          · by_cases e : k = u
            · rw [e, setG_same] at hx; cases hx; exact Nat.zero_le _
            · rw [setG_other _ _ e] at hx; exact h.tr k x hx
          · rcases List.mem_append.1 he with he | he
            · exact .inl ⟨e, he, rfl⟩
            · simp at he
              subst he
              exact .inr fun gg hgg => by have := r2 gg hgg; have := g3.size; omega
/-- Ack on both sides. -/
theorem PlAt.ack (h : PlAt w b sp bm br rs u lim a z c M g sv E iv N V W) (ack mask : Nat) (ha : ack < 4294967296) (hm : mask < 4294967296) :
    ∃ (nn : Int) (P : World → Prop), Calls Try.prog 51 #[.pointer (some ⟨b, 0, none⟩), .int .u32 (ack : Int), .int .u32 (mask : Int)] W (fun e w1 => e = .returned (.int .i64 nn) ∧ P w1) ∧
      ∀ w1, P w1 → Tame w W w1 ∧ Calls Try.prog 52 #[.pointer (some ⟨br, 0, none⟩), .int .u32 (ack : Int), .int .u32 (mask : Int)] w1 (fun e w2 => e = .returned (.int .i64 nn) ∧ Tame w w1 w2 ∧ ∃ M' g' sv' E', PlAt w b sp bm br rs u lim a z c M' g' sv' E' iv N V w2) := by
  by_cases hu : u < ack
  · refine ⟨0, fun w1 => Step [] W w1, (ack6_far h.win ack mask hu), fun w1 hs => ⟨.of hs, (refWAck_far (h.ref.same hs) ack mask hu).mono ?_⟩⟩
    rintro e w2 ⟨rfl, rfl⟩
    exact ⟨rfl, .of (Step.refl _ _), _, _, _, _, h.same hs⟩
  · have hn := h.n
    have hE := h.len
    refine ⟨(M.length : Int) - ((keysG (ackG ack mask g) u).length : Int), fun w1 => ∃ M', WinM w.heap.size w1 b sp bm u lim a z M' (ackG ack mask g) ∧ M'.length ≤ M.length ∧ Step [bm] W w1, ?_, fun w1 hP => ?_⟩
    · refine (ack6_any h.win (by omega) ack mask (by omega) hm).mono ?_
      rintro e w1 ⟨M', rfl, g1, g2, g3⟩
      rw [g1.len]
      exact ⟨rfl, M', g1, by have := g1.len; omega, g3⟩
    · obtain ⟨M', g1, g2, g3⟩ := hP
      have hT := Tame.ofW h.win (step_bm g3)
      have hst := Tame.st h.st hT
      refine ⟨hT, (refWAck_any (h.ref.overW h.win (step_bm g3)) (by have := h.st.size; have := g3.size; omega) (by omega) ack mask (by omega) ha hm).mono ?_⟩
      rintro e w2 ⟨sv', E', hE', rfl, r1, r2⟩
      have hT2 := Tame.ofQ r2
      have hp : PlAt w b sp bm br rs u lim a z c M' (ackG ack mask g) sv' E' iv N V w2 :=
        ⟨g1.overQ r2, by rw [recs_ack]; exact r1, Tame.st hst hT2, by omega, fun k x hx => by
          unfold ackG at hx
          split at hx
          · cases hx
          · exact h.tr k x hx, (h.ka.tame hT).tame hT2⟩
      refine ⟨?_, hT2, _, _, _, _, hp⟩
      rw [hE, hp.len, g1.len]
end
end Go.Proofs.Ytbainekfbonbjaa
namespace Go.Proofs.Ytbainekfbonbjaa
open Go.RowKit Go.Shelf
set_option linter.unusedVariables false
set_option linter.unusedSimpArgs false

/-- One of the cells of a slice of bytes is written over. -/
theorem OwnAt.turn {B : Nat} {W : World} {q : Option Addr} {n c i : Nat} {vals : List Value} (h : OwnAt B W 5 (.slice q n c) vals) (hi : i < vals.length) :
    n = vals.length ∧ ∃ go off y cur, q = some ⟨go, off, none⟩ ∧ vals[i]? = some y ∧ W.cell? ⟨go, off + i, none⟩ = some y ∧ W.frozen? ⟨go, off + i, none⟩ = false ∧ W.heap[go]? = some (.cells cur 5 (0, 0)) ∧ B ≤ go ∧
      ∀ x, OwnAt B (W.setCell ⟨go, off + i, none⟩ x) 5 (.slice q n c) (vals.set i x) ∧ Step [go] W (W.setCell ⟨go, off + i, none⟩ x) := by
  rcases h with ⟨h1, h2⟩ | ⟨g, off, cap, cur, h1, h2, h3, h4, h5, h6, h7⟩
  · rw [h2] at hi; simp at hi
  · injection h1 with e1 e2 e3
    subst e1 e2 e3
    obtain ⟨y, hy⟩ : ∃ y, vals[i]? = some y := ⟨_, List.getElem?_eq_getElem hi⟩
    refine ⟨rfl, g, off, y, cur, rfl, hy, cells_cell h3 (by rw [h7 i hi]; exact hy), cells_frozen h3, h3, h2, fun x => ⟨.inr ⟨g, off, c, cur.setIfInBounds (off + i) x, by rw [List.length_set], h2, setCell_obj h3 _ x, by rw [List.length_set]; exact h4, h5, by simpa using h6, fun j hj => ?_⟩, Step.setObj h3 rfl (by simp) _ _⟩⟩
    rw [List.length_set] at hj
    rw [Array.getElem?_setIfInBounds, List.getElem?_set]
    by_cases hij : i = j
    · subst hij
      rw [if_pos rfl, if_pos (by omega), if_pos rfl, if_pos hi]
    · rw [if_neg (by omega), if_neg hij]
      exact h7 j hj
def allU8 (vals : List Value) : Prop := ∀ v ∈ vals, ∃ y : Int, v = .int .u8 y
theorem allU8_u8s (p : List Nat) : allU8 (u8s p) := fun v hv => by
  obtain ⟨i, hi⟩ := List.mem_iff_getElem?.1 hv
  rw [u8s_get] at hi
  cases e : p[i]? with
  | none => rw [e] at hi; cases hi
  | some x => rw [e] at hi; simp at hi; exact ⟨_, hi.symm⟩
theorem allU8.set {vals : List Value} (h : allU8 vals) (i : Nat) (y : Int) : allU8 (vals.set i (.int .u8 y)) := fun v hv => by
  rcases List.mem_or_eq_of_mem_set hv with h1 | h1
  · exact h v h1
  · exact ⟨y, h1⟩
/-- What the rounds that compare what is due keep. -/
structure CmAt (w : World) (b sp bm br rs u lim a z c : Nat) (M : Ents) (g : Kept6) (sv : Value) (E : List En4) (iv : Value) (N : Nat) (V : Nat → Nat → Value) (B0 : Nat) (qx : Option Addr) (cx : Nat) (qy : Option Addr) (cy : Nat) (D : List Out6) (E3 : List (Nat × Value × Nat)) (ED : List En4) (i : Nat) (W : World) : Prop where
  pl : PlAt w b sp bm br rs u lim a z c M g sv E iv N V W
  x : W.ownsRow B0 81 3 (.slice qx D.length cx) D.length (cells3 E3)
  y : W.ownsRow B0 83 4 (.slice qy D.length cy) D.length (cells4 ED)
  lx : E3.length = D.length
  ly : ED.length = D.length
  px : ∀ (j : Nat) e d, i ≤ j → E3[j]? = some e → D[j]? = some d → PayAt B0 W e.2.1 d.2.1
  ex : ∀ (j : Nat) e d, E3[j]? = some e → D[j]? = some d → e.1 = d.1 ∧ e.2.2 = d.2.2
  ey : ∀ (j : Nat) e d, ED[j]? = some e → D[j]? = some d → e.1 = d.1 ∧ e.2.2.1 = d.2.2 ∧ PayAt w.heap.size W e.2.1 d.2.1
  ap : Apart E3
  lM : ∀ q ∈ M, ∀ gg, payB q.2 = some gg → gg < B0
  lE : ∀ e ∈ E, ∀ gg, e.2.1.ownBlock = some gg → gg < B0
  lD : ∀ e ∈ ED, ∀ gg, e.2.1.ownBlock = some gg → gg < B0
  b0 : w.heap.size ≤ B0
section
variable {w W W' : World} {b sp bm br rs u lim a z c : Nat} {M : Ents} {g : Kept6} {sv : Value} {E : List En4} {iv : Value} {N : Nat} {V : Nat → Nat → Value} {B0 : Nat} {qx : Option Addr} {cx : Nat} {qy : Option Addr} {cy : Nat} {D : List Out6} {E3 : List (Nat × Value × Nat)} {ED : List En4} {i : Nat}
theorem CmAt.same (h : CmAt w b sp bm br rs u lim a z c M g sv E iv N V B0 qx cx qy cy D E3 ED i W) (hs : Step [] W W') : CmAt w b sp bm br rs u lim a z c M g sv E iv N V B0 qx cx qy cy D E3 ED i W' :=
  ⟨h.pl.same hs, row_step h.x hs (by simp), row_step h.y hs (by simp), h.lx, h.ly, fun j e d hj he hd => (h.px j e d hj he hd).same hs, h.ex, fun j e d he hd => by obtain ⟨h1, h2, h3⟩ := h.ey j e d he hd; exact ⟨h1, h2, h3.same hs⟩, h.ap, h.lM, h.lE, h.lD, h.b0⟩
theorem CmAt.next (h : CmAt w b sp bm br rs u lim a z c M g sv E iv N V B0 qx cx qy cy D E3 ED i W) : CmAt w b sp bm br rs u lim a z c M g sv E iv N V B0 qx cx qy cy D E3 ED (i + 1) W :=
  ⟨h.pl, h.x, h.y, h.lx, h.ly, fun j e d hj he hd => h.px j e d (by omega) he hd, h.ex, h.ey, h.ap, h.lM, h.lE, h.lD, h.b0⟩
/-- A byte of the i-th payload that was told is turned. -/
theorem CmAt.poke {go : Nat} {cur : Array Value} {e0 : Nat × Value × Nat} (h : CmAt w b sp bm br rs u lim a z c M g sv E iv N V B0 qx cx qy cy D E3 ED (i + 1) W) (hs : Step [go] W W') (hlo : B0 ≤ go) (hg : W.heap[go]? = some (.cells cur 5 (0, 0))) (he0 : E3[i]? = some e0) (hgo : e0.2.1.ownBlock = some go) :
    CmAt w b sp bm br rs u lim a z c M g sv E iv N V B0 qx cx qy cy D E3 ED (i + 1) W' := by
  refine ⟨h.pl.poke hs (by have := h.b0; omega) hg (fun q hq e => by have := h.lM q hq go e; omega) (fun e he e2 => by have := h.lE e he go e2; omega), row_step h.x hs (fun gg hgg hm => ?_), row_step h.y hs (fun gg hgg hm => ?_), h.lx, h.ly, fun j e d hj he hd => ?_, h.ex, fun j e d he hd => ?_, h.ap, h.lM, h.lE, h.lD, h.b0⟩
  · simp at hm
    obtain ⟨_, c, hc⟩ := row_type h.x gg (by simp [hgg])
    rw [hm, hg] at hc; cases hc
  · simp at hm
    obtain ⟨_, c, hc⟩ := row_type h.y gg (by simp [hgg])
    rw [hm, hg] at hc; cases hc
  · have hp := h.px j e d hj he hd
    refine ⟨hp.1.step hs (fun gg hgg hm => ?_), hp.2⟩
    simp at hm
    obtain ⟨l1, e1⟩ := List.getElem?_eq_some_iff.1 he0
    obtain ⟨l2, e2⟩ := List.getElem?_eq_some_iff.1 he
    have := List.pairwise_iff_getElem.1 h.ap i j l1 l2 (by omega) go (by rw [e1]; exact hgo)
    rw [e2] at this
    rw [hm] at hgg
    exact this hgg
  · obtain ⟨h1, h2, h3⟩ := h.ey j e d he hd
    refine ⟨h1, h2, h3.1.step hs (fun gg hgg hm => ?_), h3.2⟩
    simp at hm
    have := h.lD e (List.mem_of_getElem? he) gg hgg
    omega
theorem mem_outE {a z nc : Nat} {e : En4} (he : e ∈ E.filterMap (outE a z nc)) : ∃ e0 ∈ E, e.2.1 = e0.2.1 := by
  obtain ⟨e0, h1, h2⟩ := List.mem_filterMap.1 he
  refine ⟨e0, h1, ?_⟩
  unfold outE at h2
  split at h2
  · next hd =>
    injection h2 with h2
    rw [← h2]
    unfold dueE
    rw [if_pos hd]
  · cases h2
/-- Due on both sides. -/
theorem PlAt.due (h : PlAt w b sp bm br rs u lim a z c M g sv E iv N V W) (hc : c ≤ 1000) (now : Int) :
    ∃ (D : List Out6) (P : Option Addr → Nat → World → Prop), D.length ≤ 16 ∧ Calls Try.prog 49 #[.pointer (some ⟨b, 0, none⟩), .int .i64 now] W (fun e w1 => ∃ qx cx, e = .returned (.slice qx D.length cx) ∧ D.length ≤ cx ∧ cx ≤ maxLen ∧ P qx cx w1) ∧
      ∀ qx cx w1, P qx cx w1 → Tame w W w1 ∧ Calls Try.prog 50 #[.pointer (some ⟨br, 0, none⟩), .int .i64 now] w1 (fun e w2 => ∃ qy cy, e = .returned (.slice qy D.length cy) ∧ D.length ≤ cy ∧ cy ≤ maxLen ∧ Tame w w1 w2 ∧
        ∃ M' g' E' E3 ED, CmAt w b sp bm br rs u lim a z (c + 1) M' g' sv E' iv N V W.heap.size qx cx qy cy D E3 ED 0 w2) := by
  obtain ⟨nc, hnc⟩ : ∃ nc : Nat, (nc : Int) = max (min now 1099511627776) 0 := ⟨(max (min now 1099511627776) 0).toNat, by omega⟩
  have hT : ∀ k x, g k = some x → x.2.1 < 1000000 := fun k x hx => by have := h.tr k x hx; omega
  have hDR : dueL nc g u = ((recs g u).filterMap (outR a z nc)).map fun q => (q.1, q.2.1, q.2.2.1) := by rw [dueL_recs, outR_tell a z nc]
  refine ⟨dueL nc g u, fun qx cx w1 => ∃ M', OutAt W.heap.size w1 (.slice qx (dueL nc g u).length cx) (dueL nc g u) ∧ WinM w.heap.size w1 b sp bm u lim a z M' (dueG a z nc g) ∧ M'.length = M.length ∧ Step [bm] W w1 ∧ PaySub M M', ?_, ?_, ?_⟩
  · unfold dueL dueOf
    have h1 := List.length_filterMap_le (dueOne nc g) (keysG g u)
    have h2 := h.win.len
    have h3 := h.n
    omega
  · refine (due6_new pdqAt255 (by omega) w.heap.size b sp bm u lim a z M g W h.win h.st.size (by have := h.n; omega) hT now nc hnc).mono ?_
    rintro e w1 ⟨v, M', rfl, g1, g2, g3, g4, g5⟩
    obtain ⟨qx, cx, rfl, e1, e2⟩ := g1.form
    exact ⟨qx, cx, rfl, e1, e2, M', g1, g2, g3, g4, g5⟩
  · rintro qx cx w1 ⟨M', g1, g2, g3, g4, g5⟩
    have hTm := Tame.ofW h.win (step_bm (sp := sp) g4)
    have hst := Tame.st h.st hTm
    have href := h.ref.overW h.win (step_bm (sp := sp) g4)
    refine ⟨hTm, (refWDue_any href (by have := h.st.size; have := g4.size; omega) h.win.az (by rw [h.len]; have := h.n; omega) (fun q hq => hT q.1 q.2 (mem_recs.1 hq).2) now nc hnc).mono ?_⟩
    rintro e w2 ⟨v, n, rfl, r1, r2, r3, r4⟩
    rw [mixL_all _ _ (Nat.le_refl _), mixL_all _ _ (by rw [href.r.len]; exact Nat.le_refl _)] at r1
    rw [List.take_of_length_le (Nat.le_refl _)] at r2 r3
    have hro := RowR.outs href.r r1.r
    have hlen : n = (dueL nc g u).length := by rw [r3, hro.len, hDR, List.length_map]
    have hT2 := Tame.ofQ r4
    have hsz := g4.size
    obtain ⟨qy, cy, rfl, hcy, hcm⟩ : ∃ q c', v = .slice q n c' ∧ n ≤ c' ∧ c' ≤ maxLen := by
      rcases r2.2 with ⟨h1, h2⟩ | ⟨g', cap, cur, h1, _, _, h3, h4, _⟩
      · exact ⟨none, 0, by rw [h1, h2], by omega, by simp [maxLen]⟩
      · exact ⟨_, cap, h1, h3, h4⟩
    obtain ⟨E3, o1, o2, o3, o4⟩ := g1
    obtain ⟨S, s1, s2⟩ := r4
    have hx2 : w2.ownsRow W.heap.size 81 3 (.slice qx (dueL nc g u).length cx) (dueL nc g u).length (cells3 E3) := row_step o1 s1 (fun gg hgg hm => by
      obtain ⟨_, cur, hc⟩ := row_type o1 gg (by simp [hgg])
      exact refTy6_not (s2 gg hm).2 (by decide) cur hc)
    have hy2 : w2.ownsRow W.heap.size 83 4 (.slice qy n cy) n (cells4 (E.filterMap (outE a z nc))) := by
      obtain ⟨p1, p2 | ⟨g', cap', cur, p3, p4, p5⟩⟩ := r2
      · exact ⟨p1, .inl p2⟩
      · exact ⟨p1, .inr ⟨g', cap', cur, p3, by omega, p5⟩⟩
    refine ⟨qy, cy, by rw [hlen], by rw [← hlen]; exact hcy, hcm, hT2, M', dueG a z nc g, E.map (dueE a z nc), E3, E.filterMap (outE a z nc), ?_⟩
    refine ⟨⟨g2.overQ ⟨S, s1, s2⟩, by rw [recs_due]; exact r1, Tame.st hst hT2, by have := h.n; omega, fun k x hx => ?_, (h.ka.tame hTm).tame hT2⟩, hx2, by rw [← hlen]; exact hy2, o2, by rw [← r3, hlen], fun j e d _ he hd => ?_, fun j e d he hd => ?_, fun j e d he hd => ?_, o4, fun q hq gg hgg => ?_, fun e he gg hgg => ?_, fun e he gg hgg => ?_, h.st.size⟩
    · unfold dueG at hx
      cases e : g k with
      | none => rw [e] at hx; simp at hx
      | some y =>
        rw [e] at hx
        simp at hx
        have := h.tr k y e
        rw [← hx]
        unfold dueX
        split
        · show y.2.1 + 1 ≤ c + 1; omega
        · omega
    · obtain ⟨_, _, h3⟩ := o3 j e d he hd
      exact ⟨h3.1.apart6 s1 (fun i hi => refTy6_not (s2 i hi).2 (by decide)), h3.2⟩
    · obtain ⟨h1, h2, _⟩ := o3 j e d he hd
      exact ⟨h1, h2⟩
    · obtain ⟨q, hq⟩ : ∃ q, ((recs g u).filterMap (outR a z nc))[j]? = some q := ⟨_, List.getElem?_eq_getElem (by rw [← hro.len]; exact (List.getElem?_eq_some_iff.1 he).1)⟩
      obtain ⟨h1, h2, h3, h4⟩ := hro.at_ j e q he hq
      rw [hDR, List.getElem?_map, hq] at hd
      simp at hd
      rw [← hd]
      exact ⟨h1, h2, h4⟩
    · obtain ⟨q0, hq0, e0⟩ := g5 q hq
      exact h.lowM q0 hq0 gg (by rw [← e0]; exact hgg)
    · obtain ⟨e0, he0, rfl⟩ := List.mem_map.1 he
      refine h.lowE e0 he0 gg ?_
      unfold dueE at hgg
      split at hgg <;> exact hgg
    · obtain ⟨e0, he0, h0⟩ := mem_outE he
      exact h.lowE e0 he0 gg (by rw [← h0]; exact hgg)
theorem minOf : ∀ R : List Rc, R ≠ [] → ∃ t, (∃ q ∈ R, q.2.2.2 = t) ∧ ∀ q ∈ R, t ≤ q.2.2.2
  | [], h => absurd rfl h
  | [q], _ => ⟨q.2.2.2, ⟨q, by simp, rfl⟩, fun q' h => by simp at h; rw [h]; exact Nat.le_refl _⟩
  | q :: q1 :: R, _ => by
    obtain ⟨t, ⟨q0, h1, h2⟩, h3⟩ := minOf (q1 :: R) (by simp)
    by_cases hq : q.2.2.2 ≤ t
    · refine ⟨q.2.2.2, ⟨q, by simp, rfl⟩, fun q' h => ?_⟩
      rcases List.mem_cons.1 h with rfl | h
      · exact Nat.le_refl _
      · have := h3 q' h; omega
    · refine ⟨t, ⟨q0, List.mem_cons_of_mem _ h1, h2⟩, fun q' h => ?_⟩
      rcases List.mem_cons.1 h with rfl | h
      · omega
      · exact h3 q' h
/-- Wakes on both sides. -/
theorem PlAt.wakes (h : PlAt w b sp bm br rs u lim a z c M g sv E iv N V W) :
    ∃ (t : Int) (ok : Bool), Calls Try.prog 55 #[.pointer (some ⟨b, 0, none⟩)] W (fun e w1 => e = .returned (.tuple #[.int .i64 t, .bool ok]) ∧ Step [] W w1) ∧
      ∀ w1, Step [] W w1 → Calls Try.prog 56 #[.pointer (some ⟨br, 0, none⟩)] w1 (fun e w2 => e = .returned (.tuple #[.int .i64 t, .bool ok]) ∧ w2 = w1) := by
  have hE := h.len
  have hn := h.n
  by_cases h0 : M.length = 0
  · refine ⟨0, false, (wakes6_none h.win h0).mono ?_, fun w1 hs => refWWakes_none (h.ref.same hs) (by omega)⟩
    rintro e w1 ⟨rfl, rfl⟩
    exact ⟨rfl, Step.refl _ _⟩
  · have hne : recs g u ≠ [] := fun e => by
      have := h.ref.r.len
      rw [e] at this
      simp at this
      rw [this] at hE
      simp at hE
      omega
    obtain ⟨t, ht1, ht2⟩ := minOf _ hne
    have hmin := minR h.win.kb ht1 ht2
    refine ⟨(t : Int), true, (wakes6_some h.win h0 (by omega)).mono ?_, fun w1 hs => (refWWakes_some (h.ref.same hs) (by omega) (by omega)).mono ?_⟩
    · rintro e w1 ⟨t', rfl, h1, h2⟩
      rw [h1.uniq hmin]
      exact ⟨rfl, h2⟩
    · rintro e w2 ⟨t', rfl, h1, h2, h3⟩
      rw [(minR h.win.kb h1 h2).uniq hmin]
      exact ⟨rfl, h3⟩
/-- A put into a copy. -/
theorem put6_some {B : Nat} (h : WinM B W b sp bm u lim a z M g) (hB : B ≤ W.heap.size) (hn : M.length ≤ 16) {q1 : Option Addr} {n c1 : Nat} {p : List Nat} (hpn : n = p.length) (hp : ∀ x ∈ p, x < 256) (hl : p.length ≤ 256) (hr1 : Reads W (.slice q1 n c1) (u8s p)) :
    Calls Try.prog 47 #[.pointer (some ⟨b, 0, none⟩), .slice q1 n c1, .int .i64 0] W (fun e w1 => ∃ (nn ff : Nat) (u' : Nat) (M' : Ents) (g' : Kept6), e = .returned (.tuple #[.int .u32 (nn : Int), .int .i64 (ff : Int)]) ∧ WinM B w1 b sp bm u' lim a z M' g' ∧ M'.length ≤ 16 ∧ Step [sp, bm] W w1) := by
  have hul := h.ul
  have ht : (0 : Nat) ≤ 1099511627776 := by omega
  by_cases hfull : 16 ≤ M.length
  · refine (put6_busy h q1 n c1 0 ht (by omega) hfull).mono ?_
    rintro e w1 ⟨rfl, rfl⟩
    exact ⟨0, 8, u, M, g, rfl, h, hn, Step.refl _ _⟩
  · by_cases hu : u = lim
    · refine (put6_full h q1 n c1 0 ht (by omega) (by omega) hu).mono ?_
      rintro e w1 ⟨rfl, hs⟩
      exact ⟨0, 7, u, M, g, rfl, h.same hs, hn, hs.nil_mono⟩
    · refine (put6_ok h hB q1 c1 0 p n hpn hp hr1 ht hl (by omega) (by omega)).mono ?_
      rintro e w1 ⟨rfl, M', g1, g2, g3⟩
      exact ⟨u, 0, u + 1, M', _, rfl, g1, by omega, g3⟩
end
end Go.Proofs.Ytbainekfbonbjaa
