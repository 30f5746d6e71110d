/- window: what a window is, in plain words and in the world; none, Len, Next, Left, New. No statement is proved here; nothing is assumed. -/
import Derived.Test.YtbainekfbonbjaaWinSp
namespace Go.Proofs.Ytbainekfbonbjaa
open Go.RowKit Go.Shelf
set_option linter.unusedVariables false
set_option linter.unusedSimpArgs false
attribute [local go_sem] Oper.semAt_some

/-- An item: payload, tries, when it is due. -/
abbrev Rec6 := List Nat × Nat × Nat
abbrev Kept6 := Nat → Option Rec6
def setG (g : Kept6) (k : Nat) (x : Option Rec6) : Kept6 := fun j => if j = k then x else g j
theorem setG_same (g : Kept6) (k : Nat) (x : Option Rec6) : setG g k x k = x := if_pos rfl
theorem setG_other (g : Kept6) {k j : Nat} (x : Option Rec6) (h : j ≠ k) : setG g k x j = g j := if_neg h
structure RepW (rd : Nat → Value → Rec6 → Prop) (M : Ents) (g : Kept6) : Prop where
  nd : (M.map Prod.fst).Nodup
  to : ∀ k v, (k, v) ∈ M → ∃ x, g k = some x ∧ rd k v x
  fro : ∀ k x, g k = some x → ∃ v, (k, v) ∈ M
section
variable {rd rd' : Nat → Value → Rec6 → Prop} {M M' : Ents} {g : Kept6} {k : Nat} {v : Value} {x : Rec6}
theorem RepW.nil : RepW rd [] (fun _ => none) := ⟨by simp, by simp, by simp⟩
theorem RepW.mono (h : RepW rd M g) (hi : ∀ k v x, (k, v) ∈ M → rd k v x → rd' k v x) : RepW rd' M g :=
  ⟨h.nd, fun k v hm => by obtain ⟨x, h1, h2⟩ := h.to k v hm; exact ⟨x, h1, hi k v x hm h2⟩, h.fro⟩
theorem RepW.put (h : RepW rd M g) (hv : rd k v x) : RepW rd (putE M k v) (setG g k (some x)) := by
  refine ⟨nodup_put h.nd k v, fun j u hu => ?_, fun j y hj => ?_⟩
  · rcases mem_putE.1 hu with ⟨h1, h2⟩ | hu
    · obtain ⟨y, h3, h4⟩ := h.to j u h1
      exact ⟨y, by rw [setG_other _ _ h2]; exact h3, h4⟩
    · injection hu with e1 e2
      subst e1; subst e2
      exact ⟨x, setG_same _ _ _, hv⟩
  · by_cases e : j = k
    · subst e; exact ⟨v, mem_putE.2 (.inr rfl)⟩
    · rw [setG_other _ _ e] at hj
      obtain ⟨u, hu⟩ := h.fro j y hj
      exact ⟨u, mem_putE.2 (.inl ⟨hu, e⟩)⟩
theorem RepW.del (h : RepW rd M g) (k : Nat) : RepW rd (delE M k) (setG g k none) := by
  refine ⟨nodup_del h.nd k, fun j u hu => ?_, fun j y hj => ?_⟩
  · obtain ⟨h1, h2⟩ := mem_delE.1 hu
    obtain ⟨y, h3, h4⟩ := h.to j u h1
    exact ⟨y, by rw [setG_other _ _ h2]; exact h3, h4⟩
  · by_cases e : j = k
    · subst e; rw [setG_same] at hj; cases hj
    · rw [setG_other _ _ e] at hj
      obtain ⟨u, hu⟩ := h.fro j y hj
      exact ⟨u, mem_delE.2 ⟨hu, e⟩⟩
theorem RepW.has (h : RepW rd M g) (k : Nat) : hasE M k = (g k).isSome := by
  rw [Bool.eq_iff_iff, hasE_iff]
  constructor
  · rintro ⟨v, hv⟩
    obtain ⟨x, hx, _⟩ := h.to k v hv
    rw [hx]; rfl
  · intro hs
    obtain ⟨x, hx⟩ := Option.isSome_iff_exists.1 hs
    exact h.fro k x hx
theorem RepW.mem (h : RepW rd M g) (k : Nat) : k ∈ M.map Prod.fst ↔ (g k).isSome = true := by
  rw [← h.has, hasE_iff, List.mem_map]
  constructor
  · rintro ⟨p, hp, rfl⟩; exact ⟨p.2, hp⟩
  · rintro ⟨v, hv⟩; exact ⟨_, hv, rfl⟩
/-- The numbers that are kept, in a row. -/
def keysG (g : Kept6) (u : Nat) : List Nat := (List.range u).filter fun k => (g k).isSome
theorem mem_keysG {g : Kept6} {u k : Nat} : k ∈ keysG g u ↔ k < u ∧ (g k).isSome = true := by
  unfold keysG; rw [List.mem_filter, List.mem_range]
theorem nodup_keysG (g : Kept6) (u : Nat) : (keysG g u).Nodup := List.nodup_range.sublist List.filter_sublist
theorem perm_nodup6 {l l' : List Nat} (hl : l.Nodup) (hl' : l'.Nodup) (h : ∀ k, k ∈ l ↔ k ∈ l') : l.Perm l' := (List.perm_ext_iff_of_nodup hl hl').2 h
theorem RepW.perm (h : RepW rd M g) {u : Nat} (hu : ∀ k x, g k = some x → k < u) : (M.map Prod.fst).Perm (keysG g u) :=
  perm_nodup6 h.nd (nodup_keysG g u) fun k => by
    rw [h.mem, mem_keysG]
    constructor
    · intro hs
      obtain ⟨x, hx⟩ := Option.isSome_iff_exists.1 hs
      exact ⟨hu k x hx, hs⟩
    · exact fun h => h.2
theorem RepW.len (h : RepW rd M g) {u : Nat} (hu : ∀ k x, g k = some x → k < u) : M.length = (keysG g u).length := by
  have := (h.perm hu).length_eq
  simpa using this
theorem sorted_keysG (g : Kept6) (u : Nat) : (keysG g u).Pairwise (· < ·) := List.pairwise_lt_range.sublist List.filter_sublist
end

/-- What the map has at k: item x. -/
def ItemAt (B : Nat) (W : World) (k : Nat) (v : Value) (x : Rec6) : Prop := ∃ pl, v = .agg #[.int .u32 (k : Int), pl, .int .i64 (x.2.1 : Int), .int .i64 (x.2.2 : Int)] ∧ PayAt B W pl x.1
def winObj (sp a z : Nat) (m : Option Nat) : Obj := .cells #[.pointer (some ⟨sp, 0, none⟩), .int .i64 (a : Int), .int .i64 (z : Int), .map m] 95
/-- A window. -/
structure WinM (B : Nat) (W : World) (b sp bm u lim a z : Nat) (M : Ents) (g : Kept6) : Prop where
  o : W.heap[b]? = some (winObj sp a z (some bm))
  s : SpaceAt W sp u lim
  lo : B ≤ b ∧ B ≤ sp ∧ B ≤ bm
  m : MapV W bm M
  r : RepW (ItemAt B W) M g
  ul : u ≤ lim ∧ 1 ≤ lim ∧ lim ≤ 2147483648
  az : 1 ≤ a ∧ a ≤ z ∧ z ≤ 1099511627776
  kb : ∀ k x, g k = some x → k < u
section
variable {B : Nat} {W W' : World} {b sp bm u lim a z : Nat} {M : Ents} {g : Kept6} {S : List Nat}
theorem ItemAt.step {k : Nat} {v : Value} {x : Rec6} (h : ItemAt B W k v x) (hs : Step S W W') (hS : ∀ i ∈ S, ∀ cur, W.heap[i]? ≠ some (.cells cur 5 (0, 0))) : ItemAt B W' k v x := by
  obtain ⟨pl, h1, h2⟩ := h
  exact ⟨pl, h1, h2.1.step hs (fun g hg hm => by obtain ⟨cur, hc⟩ := h2.block hg; exact hS g hm cur hc), h2.2⟩
theorem WinM.step (h : WinM B W b sp bm u lim a z M g) (hs : Step S W W') (hS : ∀ i ∈ S, i ≠ b ∧ i ≠ sp ∧ i ≠ bm ∧ ∀ cur, W.heap[i]? ≠ some (.cells cur 5 (0, 0))) : WinM B W' b sp bm u lim a z M g :=
  ⟨obj_step h.o hs (fun hm => (hS _ hm).1 rfl), obj_step h.s hs (fun hm => (hS _ hm).2.1 rfl), h.lo, h.m.keep hs (fun hm => (hS _ hm).2.2.1 rfl),
   h.r.mono fun k v x _ hi => hi.step hs fun i hm => (hS i hm).2.2.2, h.ul, h.az, h.kb⟩
theorem WinM.same (h : WinM B W b sp bm u lim a z M g) (hs : Step [] W W') : WinM B W' b sp bm u lim a z M g := h.step hs (by simp)
theorem win_cells {m : Option Nat} (h : W.heap[b]? = some (winObj sp a z m)) : W.cell? ⟨b, 0, none⟩ = some (.pointer (some ⟨sp, 0, none⟩)) ∧ W.cell? ⟨b, 1, none⟩ = some (.int .i64 (a : Int)) ∧ W.cell? ⟨b, 2, none⟩ = some (.int .i64 (z : Int)) ∧ W.cell? ⟨b, 3, none⟩ = some (.map m) :=
  ⟨cells_cell h rfl, cells_cell h rfl, cells_cell h rfl, cells_cell h rfl⟩
theorem WinM.len (h : WinM B W b sp bm u lim a z M g) : M.length = (keysG g u).length := h.r.len h.kb
theorem WinM.ne (h : WinM B W b sp bm u lim a z M g) : b ≠ sp ∧ b ≠ bm ∧ sp ≠ bm := by
  obtain ⟨es, c, hb⟩ := h.m.block
  have ho := h.o
  have hsp : W.heap[sp]? = some (spaceObj 92 u lim) := h.s
  refine ⟨fun e => ?_, fun e => ?_, fun e => ?_⟩
  · rw [e, hsp] at ho; unfold spaceObj winObj at ho; cases ho
  · rw [e, hb] at ho; cases ho
  · rw [e, hb] at hsp; cases hsp
/-- The blocks of a window hold no payload. -/
theorem WinM.apart (h : WinM B W b sp bm u lim a z M g) : ∀ i ∈ [b, sp, bm], ∀ cur, W.heap[i]? ≠ some (.cells cur 5 (0, 0)) := fun i hi cur hc => by
  obtain ⟨es, c, hb⟩ := h.m.block
  have ho := h.o
  have hsp : W.heap[sp]? = some (spaceObj 92 u lim) := h.s
  simp at hi
  rcases hi with rfl | rfl | rfl
  · rw [hc] at ho; cases ho
  · rw [hc] at hsp; cases hsp
  · rw [hc] at hb; cases hb
end
theorem eqnil93 (w : World) (p : Option Nat) : (binOp .eql 93 (.map p) (.map none)).run Try.prog w = .ok (.bool p.isNone) w := run_eql_map_nil_sl w 93 _ _ p Try.underlying93
theorem none6_nil (w : World) : Calls Try.prog 92 #[.pointer none] w fun e w' => e = .returned (.bool true) ∧ w' = w := by
  go_enter Try.func92, Try.ntmps92
  go_wp2
  go_ret
  exact ⟨rfl, rfl⟩
/-- A window that was never made. -/
def zeroObj6 : Obj := .cells #[.pointer none, .int .i64 0, .int .i64 0, .map none] 95
theorem none6_zero (b : Nat) (w : World) (h : w.heap[b]? = some zeroObj6) : Calls Try.prog 92 #[.pointer (some ⟨b, 0, none⟩)] w fun e w' => e = .returned (.bool true) ∧ w' = w := by
  have c3 : w.cell? ⟨b, 3, none⟩ = some (.map none) := cells_cell h rfl
  have hq := eqnil93 w none
  clear h
  go_enter Try.func92, Try.ntmps92
  go_wp2
  go_ret
  exact ⟨rfl, rfl⟩
theorem none6_any (b sp a z bm : Nat) (w : World) (h : w.heap[b]? = some (winObj sp a z (some bm))) : Calls Try.prog 92 #[.pointer (some ⟨b, 0, none⟩)] w fun e w' => e = .returned (.bool false) ∧ w' = w := by
  obtain ⟨_, _, _, c3⟩ := win_cells h
  have hq := eqnil93 w (some bm)
  clear h
  go_enter Try.func92, Try.ntmps92
  go_wp2
  go_ret
  exact ⟨rfl, rfl⟩
theorem len6_any (B b sp bm u lim a z : Nat) (M : Ents) (g : Kept6) (w : World) (h : WinM B w b sp bm u lim a z M g) : Calls Try.prog 57 #[.pointer (some ⟨b, 0, none⟩)] w fun e w' => e = .returned (.int .i64 (M.length : Int)) ∧ w' = w := by
  obtain ⟨_, _, _, c3⟩ := win_cells h.o
  have HN := Lib.hid (none6_any b sp a z bm w h.o)
  have hl := h.m.len Try.underlying93
  clear h
  go_enter Try.func57, Try.ntmps57
  go_wp2_with (go_at_call 92; refine HN.out.mono ?_; rintro e w' ⟨rfl, hw⟩; cases hw.symm)
  go_ret
  exact ⟨rfl, rfl⟩
theorem next6_any (B b sp bm u lim a z : Nat) (M : Ents) (g : Kept6) (w : World) (h : WinM B w b sp bm u lim a z M g) : Calls Try.prog 54 #[.pointer (some ⟨b, 0, none⟩)] w fun e w' => e = .returned (.int .u32 (u : Int)) ∧ w' = w := by
  obtain ⟨c0, _, _, c3⟩ := win_cells h.o
  have HN := Lib.hid (none6_any b sp a z bm w h.o)
  have HU := Lib.hid (used_any sp u lim h.ul.2.1 w h.s)
  clear h
  go_enter Try.func54, Try.ntmps54
  go_wp2_with (first | (go_at_call 92; refine HN.out.mono ?_; rintro e w' ⟨rfl, hw⟩; cases hw.symm) | (go_at_call 41; refine HU.out.mono ?_; rintro e w' ⟨rfl, rfl⟩))
  go_ret
  exact ⟨rfl, rfl⟩
theorem left6_any (B b sp bm u lim a z : Nat) (M : Ents) (g : Kept6) (w : World) (h : WinM B w b sp bm u lim a z M g) : Calls Try.prog 60 #[.pointer (some ⟨b, 0, none⟩)] w fun e w' => e = .returned (.int .u32 ((lim : Int) - (u : Int))) ∧ Step [] w w' := by
  obtain ⟨c0, _, _, c3⟩ := win_cells h.o
  have HN := Lib.hid (none6_any b sp a z bm w h.o)
  have HU := Lib.hid (left_any sp u lim h.ul.2.1 h.ul.1 (by have := h.ul.2.2; omega) w h.s)
  clear h
  go_enter Try.func60, Try.ntmps60
  go_wp2_with (first | (go_at_call 92; refine HN.out.mono ?_; rintro e w' ⟨rfl, hw⟩; cases hw.symm) | (go_at_call 42; refine HU.out.mono ?_; rintro e w' ⟨rfl, n, rfl⟩))
  go_ret
  exact ⟨rfl, Step.drewN _ _⟩
end Go.Proofs.Ytbainekfbonbjaa
