/- CreditBounded: what two ends hold, and acts. No statement is proved here; nothing is assumed. -/
import Derived.Test.YtnomnhlfenhjdaaCreF
import Derived.Test.YtnomnhlfenhjdaaOwn
import Derived.OwnWalkIn
import Derived.TacticsInMore
import Derived.LoopNIn
import Derived.LoopIn
import Derived.Deep.QuietTactic
import Derived.BigQuiet
import Derived.Maps.OwnIn
import Derived.Deep.RegionHeld3
import Derived.Laws.Bits64
namespace Go.Proofs.Ytnomnhlfenhjdaa
open Go.RowKit Go.Shelf
set_option linter.unusedVariables false
attribute [local go_sem] Oper.semAt_some

def ival (n : Nat) : Value := .int .i64 (n : Int)
def endsObj (bs bg : Nat) (v1 v2 : Value) (sp us : Nat) : Obj := .cells #[.pointer (some ⟨bs, 0, none⟩), .pointer (some ⟨bg, 0, none⟩), v1, v2, .int .i64 (sp : Int), .int .i64 (us : Int)] 55
/-- The two ends, and what is on its way between. -/
structure Ends (B : Nat) (W : World) (bx bs bg m g p G t u sp us : Nat) (v1 v2 : Value) (way gs : List Nat) : Prop where
  xo : W.heap[bx]? = some (endsObj bs bg v1 v2 sp us)
  xs : SpAt W bs m g p
  xg : GvAt W bg m G t u
  xw : OwnAt B W 3 v1 (way.map ival)
  xq : OwnAt B W 3 v2 (gs.map ival)
  nb : ∀ k, v1.ownBlock = some k → v2.ownBlock ≠ some k
  bx0 : B ≤ bx
  bs0 : B ≤ bs
  bg0 : B ≤ bg

def StepB (B : Nat) (W W' : World) : Prop := ∃ S, (∀ i ∈ S, B ≤ i) ∧ Step S W W'
theorem StepB.refl {B : Nat} (W : World) : StepB B W W := ⟨[], by simp, Step.refl _ _⟩
theorem StepB.of {B : Nat} {W W' : World} (h : Step [] W W') : StepB B W W' := ⟨[], by simp, h⟩
theorem StepB.one {B b : Nat} {W W' : World} (h : Step [b] W W') (hb : B ≤ b) : StepB B W W' := ⟨[b], by simpa using hb, h⟩
theorem StepB.trans {B : Nat} {X Y Z : World} (h : StepB B X Y) (k : StepB B Y Z) : StepB B X Z := by
  obtain ⟨S, h1, h2⟩ := h
  obtain ⟨T, k1, k2⟩ := k
  exact ⟨S ++ T, fun i hi => (List.mem_append.1 hi).elim (h1 i) (k1 i), h2.trans' k2 (fun i hi _ => List.mem_append.2 (.inl hi)) (fun i hi _ => List.mem_append.2 (.inr hi))⟩
theorem StepB.size {B : Nat} {W W' : World} (h : StepB B W W') : W.heap.size ≤ W'.heap.size := h.choose_spec.2.size
theorem StepB.nil {W W' : World} (h : StepB W.heap.size W W') : Step [] W W' := by
  obtain ⟨S, h1, h2⟩ := h
  exact h2.mono (fun i hi hl => absurd (h1 i hi) (by omega))

theorem ne_types {W : World} {a b : Nat} {c c' : Array Value} {t t' : TypeId} {f f' : Nat × Nat} (h : W.heap[a]? = some (.cells c t f)) (h' : W.heap[b]? = some (.cells c' t' f')) (ht : t ≠ t') : a ≠ b := by
  rintro rfl
  rw [h] at h'
  cases h'
  exact ht rfl

section
variable {B : Nat} {W W' : World} {bx bs bg m g p G t u sp us : Nat} {v1 v2 : Value} {way gs : List Nat}
theorem Ends.n1 (h : Ends B W bx bs bg m g p G t u sp us v1 v2 way gs) : bx ≠ bs ∧ bx ≠ bg ∧ bs ≠ bg := ⟨ne_types h.xo h.xs (by decide), ne_types h.xo h.xg (by decide), ne_types h.xs h.xg (by decide)⟩
theorem Ends.n2 (h : Ends B W bx bs bg m g p G t u sp us v1 v2 way gs) {k : Nat} (hk : v1.ownBlock = some k) : k ≠ bx ∧ k ≠ bs ∧ k ≠ bg := by
  obtain ⟨_, _, cur, hc⟩ := h.xw.block hk
  exact ⟨ne_types hc h.xo (by decide), ne_types hc h.xs (by decide), ne_types hc h.xg (by decide)⟩
theorem Ends.n3 (h : Ends B W bx bs bg m g p G t u sp us v1 v2 way gs) {k : Nat} (hk : v2.ownBlock = some k) : k ≠ bx ∧ k ≠ bs ∧ k ≠ bg := by
  obtain ⟨_, _, cur, hc⟩ := h.xq.block hk
  exact ⟨ne_types hc h.xo (by decide), ne_types hc h.xs (by decide), ne_types hc h.xg (by decide)⟩
theorem Ends.same (h : Ends B W bx bs bg m g p G t u sp us v1 v2 way gs) (hs : Step [] W W') : Ends B W' bx bs bg m g p G t u sp us v1 v2 way gs :=
  ⟨obj_step h.xo hs (by simp), obj_step h.xs hs (by simp), obj_step h.xg hs (by simp), h.xw.same hs, h.xq.same hs, h.nb, h.bx0, h.bs0, h.bg0⟩
theorem Ends.cells (h : Ends B W bx bs bg m g p G t u sp us v1 v2 way gs) : W.cell? ⟨bx, 0, none⟩ = some (.pointer (some ⟨bs, 0, none⟩)) ∧ W.cell? ⟨bx, 1, none⟩ = some (.pointer (some ⟨bg, 0, none⟩)) ∧ W.cell? ⟨bx, 2, none⟩ = some v1 ∧ W.cell? ⟨bx, 3, none⟩ = some v2 ∧
    W.cell? ⟨bx, 4, none⟩ = some (.int .i64 (sp : Int)) ∧ W.cell? ⟨bx, 5, none⟩ = some (.int .i64 (us : Int)) ∧ W.frozen? ⟨bx, 2, none⟩ = false ∧ W.frozen? ⟨bx, 3, none⟩ = false ∧ W.frozen? ⟨bx, 4, none⟩ = false ∧ W.frozen? ⟨bx, 5, none⟩ = false :=
  ⟨cells_cell h.xo rfl, cells_cell h.xo rfl, cells_cell h.xo rfl, cells_cell h.xo rfl, cells_cell h.xo rfl, cells_cell h.xo rfl, cells_frozen h.xo, cells_frozen h.xo, cells_frozen h.xo, cells_frozen h.xo⟩
theorem Ends.cells1 (h : Ends B W bx bs bg m g p G t u sp us v1 v2 way gs) :
    (∀ o, (W.alloc o).cell? ⟨bx, 0, none⟩ = some (.pointer (some ⟨bs, 0, none⟩))) ∧ (∀ o, (W.alloc o).cell? ⟨bx, 1, none⟩ = some (.pointer (some ⟨bg, 0, none⟩))) ∧ (∀ o, (W.alloc o).cell? ⟨bx, 2, none⟩ = some v1) ∧ (∀ o, (W.alloc o).cell? ⟨bx, 3, none⟩ = some v2) ∧
    (∀ o, (W.alloc o).cell? ⟨bx, 4, none⟩ = some (.int .i64 (sp : Int))) ∧ (∀ o, (W.alloc o).cell? ⟨bx, 5, none⟩ = some (.int .i64 (us : Int))) :=
  ⟨fun o => (h.same (Step.alloc _ o)).cells.1, fun o => (h.same (Step.alloc _ o)).cells.2.1, fun o => (h.same (Step.alloc _ o)).cells.2.2.1, fun o => (h.same (Step.alloc _ o)).cells.2.2.2.1, fun o => (h.same (Step.alloc _ o)).cells.2.2.2.2.1, fun o => (h.same (Step.alloc _ o)).cells.2.2.2.2.2.1⟩
theorem Ends.size (h : Ends B W bx bs bg m g p G t u sp us v1 v2 way gs) : B ≤ W.heap.size := by have := heap_lt h.xo; have := h.bx0; omega
/-- The spending end has turned. -/
theorem Ends.turnS (h : Ends B W bx bs bg m g p G t u sp us v1 v2 way gs) {g' p' : Nat} (hs : Step [bs] W W') (h' : SpAt W' bs m g' p') : Ends B W' bx bs bg m g' p' G t u sp us v1 v2 way gs :=
  ⟨obj_step h.xo hs (by simp; exact h.n1.1), h', obj_step h.xg hs (by simp; exact h.n1.2.2.symm), h.xw.step hs (fun k hk => by simp; exact (h.n2 hk).2.1), h.xq.step hs (fun k hk => by simp; exact (h.n3 hk).2.1), h.nb, h.bx0, h.bs0, h.bg0⟩
theorem Ends.turnG (h : Ends B W bx bs bg m g p G t u sp us v1 v2 way gs) {G' t' u' : Nat} (hs : Step [bg] W W') (h' : GvAt W' bg m G' t' u') : Ends B W' bx bs bg m g p G' t' u' sp us v1 v2 way gs :=
  ⟨obj_step h.xo hs (by simp; exact h.n1.2.1), obj_step h.xs hs (by simp; exact h.n1.2.2), h', h.xw.step hs (fun k hk => by simp; exact (h.n2 hk).2.2), h.xq.step hs (fun k hk => by simp; exact (h.n3 hk).2.2), h.nb, h.bx0, h.bs0, h.bg0⟩
/-- A field of the object between is written. -/
theorem Ends.put (h : Ends B W bx bs bg m g p G t u sp us v1 v2 way gs) (i : Nat) (v : Value) {v1' v2' : Value} {sp' us' : Nat} (ho : (W.setCell ⟨bx, i, none⟩ v).heap[bx]? = some (endsObj bs bg v1' v2' sp' us')) {way' gs' : List Nat}
    (hw : OwnAt B W 3 v1' (way'.map ival)) (hq : OwnAt B W 3 v2' (gs'.map ival)) (nb' : ∀ k, v1'.ownBlock = some k → v2'.ownBlock ≠ some k) :
    Ends B (W.setCell ⟨bx, i, none⟩ v) bx bs bg m g p G t u sp' us' v1' v2' way' gs' ∧ Step [bx] W (W.setCell ⟨bx, i, none⟩ v) := by
  have hs : Step [bx] W (W.setCell ⟨bx, i, none⟩ v) := Step.setObj h.xo rfl (by simp) i v
  refine ⟨⟨ho, obj_step h.xs hs (by simp; exact h.n1.1.symm), obj_step h.xg hs (by simp; exact h.n1.2.1.symm), hw.step hs (fun k hk => ?_), hq.step hs (fun k hk => ?_), nb', h.bx0, h.bs0, h.bg0⟩, hs⟩
  · obtain ⟨_, _, cur, hc⟩ := hw.block hk
    simp; exact ne_types hc h.xo (by decide)
  · obtain ⟨_, _, cur, hc⟩ := hq.block hk
    simp; exact ne_types hc h.xo (by decide)
theorem Ends.putSp (h : Ends B W bx bs bg m g p G t u sp us v1 v2 way gs) (sp' : Nat) : Ends B (W.setCell ⟨bx, 4, none⟩ (.int .i64 (sp' : Int))) bx bs bg m g p G t u sp' us v1 v2 way gs ∧ Step [bx] W (W.setCell ⟨bx, 4, none⟩ (.int .i64 (sp' : Int))) := h.put 4 _ (setCell_obj h.xo 4 _) h.xw h.xq h.nb
theorem Ends.putUs (h : Ends B W bx bs bg m g p G t u sp us v1 v2 way gs) (us' : Nat) : Ends B (W.setCell ⟨bx, 5, none⟩ (.int .i64 (us' : Int))) bx bs bg m g p G t u sp us' v1 v2 way gs ∧ Step [bx] W (W.setCell ⟨bx, 5, none⟩ (.int .i64 (us' : Int))) := h.put 5 _ (setCell_obj h.xo 5 _) h.xw h.xq h.nb
/-- Behind an append onto what is on its way. -/
theorem Ends.grewW (h : Ends B W bx bs bg m g p G t u sp us v1 v2 way gs) {v1' : Value} {way' : List Nat} (hs : ∀ S, (∀ k, v1.ownBlock = some k → k ∈ S) → Step S W W') (ho : OwnAt B W' 3 v1' (way'.map ival)) (hb : ∀ k, v1'.ownBlock = some k → v1.ownBlock = some k ∨ W.heap.size ≤ k) :
    Ends B (W'.setCell ⟨bx, 2, none⟩ v1') bx bs bg m g p G t u sp us v1' v2 way' gs ∧ StepB B W (W'.setCell ⟨bx, 2, none⟩ v1') ∧ W'.cell? ⟨bx, 2, none⟩ = some v1 ∧ W'.frozen? ⟨bx, 2, none⟩ = false := by
  have hs1 := hs (v1.ownBlock.toList) (fun k hk => by simp [hk])
  have hn : ∀ k, v1.ownBlock = some k → k ∈ v1.ownBlock.toList := fun k hk => by simp [hk]
  have xo' : W'.heap[bx]? = some (endsObj bs bg v1 v2 sp us) := obj_step h.xo hs1 (fun hm => by simp at hm; exact (h.n2 hm).1 rfl)
  have he : Ends B W' bx bs bg m g p G t u sp us v1 v2 [] gs → True := fun _ => trivial
  have xs' : SpAt W' bs m g p := obj_step h.xs hs1 (fun hm => by simp at hm; exact (h.n2 hm).2.1 rfl)
  have xg' : GvAt W' bg m G t u := obj_step h.xg hs1 (fun hm => by simp at hm; exact (h.n2 hm).2.2 rfl)
  have xq' : OwnAt B W' 3 v2 (gs.map ival) := h.xq.step hs1 (fun k hk hm => by simp at hm; exact h.nb k hm hk)
  have nb' : ∀ k, v1'.ownBlock = some k → v2.ownBlock ≠ some k := fun k hk h2 => by
    rcases hb k hk with h3 | h3
    · exact h.nb k h3 h2
    · have := (h.xq.block h2).2.1; omega
  have hset : Step [bx] W' (W'.setCell ⟨bx, 2, none⟩ v1') := Step.setObj xo' rfl (by simp) 2 v1'
  refine ⟨⟨setCell_obj xo' 2 _, obj_step xs' hset (by simp; exact h.n1.1.symm), obj_step xg' hset (by simp; exact h.n1.2.1.symm), ho.step hset (fun k hk => ?_), xq'.step hset (fun k hk => ?_), nb', h.bx0, h.bs0, h.bg0⟩, ?_, cells_cell xo' rfl, cells_frozen xo'⟩
  · obtain ⟨_, _, cur, hc⟩ := ho.block hk
    simp; exact ne_types hc xo' (by decide)
  · obtain ⟨_, _, cur, hc⟩ := xq'.block hk
    simp; exact ne_types hc xo' (by decide)
  · exact StepB.trans ⟨_, fun i hi => by simp at hi; exact (h.xw.block hi).1, hs1⟩ (StepB.one hset h.bx0)
/-- Behind an append onto the grants. -/
theorem Ends.grewG (h : Ends B W bx bs bg m g p G t u sp us v1 v2 way gs) {v2' : Value} {gs' : List Nat} (hs : ∀ S, (∀ k, v2.ownBlock = some k → k ∈ S) → Step S W W') (ho : OwnAt B W' 3 v2' (gs'.map ival)) (hb : ∀ k, v2'.ownBlock = some k → v2.ownBlock = some k ∨ W.heap.size ≤ k) :
    Ends B (W'.setCell ⟨bx, 3, none⟩ v2') bx bs bg m g p G t u sp us v1 v2' way gs' ∧ StepB B W (W'.setCell ⟨bx, 3, none⟩ v2') ∧ W'.cell? ⟨bx, 3, none⟩ = some v2 ∧ W'.frozen? ⟨bx, 3, none⟩ = false := by
  have hs1 := hs (v2.ownBlock.toList) (fun k hk => by simp [hk])
  have xo' : W'.heap[bx]? = some (endsObj bs bg v1 v2 sp us) := obj_step h.xo hs1 (fun hm => by simp at hm; exact (h.n3 hm).1 rfl)
  have xs' : SpAt W' bs m g p := obj_step h.xs hs1 (fun hm => by simp at hm; exact (h.n3 hm).2.1 rfl)
  have xg' : GvAt W' bg m G t u := obj_step h.xg hs1 (fun hm => by simp at hm; exact (h.n3 hm).2.2 rfl)
  have xw' : OwnAt B W' 3 v1 (way.map ival) := h.xw.step hs1 (fun k hk hm => by simp at hm; exact h.nb k hk hm)
  have nb' : ∀ k, v1.ownBlock = some k → v2'.ownBlock ≠ some k := fun k hk h2 => by
    rcases hb k h2 with h3 | h3
    · exact h.nb k hk h3
    · have := (h.xw.block hk).2.1; omega
  have hset : Step [bx] W' (W'.setCell ⟨bx, 3, none⟩ v2') := Step.setObj xo' rfl (by simp) 3 v2'
  refine ⟨⟨setCell_obj xo' 3 _, obj_step xs' hset (by simp; exact h.n1.1.symm), obj_step xg' hset (by simp; exact h.n1.2.1.symm), xw'.step hset (fun k hk => ?_), ho.step hset (fun k hk => ?_), nb', h.bx0, h.bs0, h.bg0⟩, ?_, cells_cell xo' rfl, cells_frozen xo'⟩
  · obtain ⟨_, _, cur, hc⟩ := xw'.block hk
    simp; exact ne_types hc xo' (by decide)
  · obtain ⟨_, _, cur, hc⟩ := ho.block hk
    simp; exact ne_types hc xo' (by decide)
  · exact StepB.trans ⟨_, fun i hi => by simp at hi; exact (h.xq.block hi).1, hs1⟩ (StepB.one hset h.bx0)
end

theorem OwnAt.slice {B : Nat} {W : World} {e : TypeId} {v : Value} {vals : List Value} (h : OwnAt B W e v vals) : ∃ q n c, v = .slice q n c := by
  obtain ⟨q, c, hv, _⟩ := h.form
  exact ⟨q, _, c, hv⟩
theorem cell_new1 {w : World} {h : Nat} {v : Value} {t : TypeId} (hh : w.heap.size = h) : (w.alloc (.cells #[v] t)).cell? ⟨h, 0, none⟩ = some v := by
  subst hh
  exact cells_cell (by rw [heap_alloc_get, if_pos rfl]) rfl
theorem info3 : (Try.prog.info? 3).map (fun i => (i.zero, i.size, i.bytes)) = some (some (.int .i64 0), 1, 8) := by kernel_rfl

set_option maxRecDepth 100000 in
/-- An act that changes nothing. -/
theorem does_other (B : Nat) (a n : Nat) (ha : 8 < a) (ha2 : a < 256) (hn : n < 256) (bx : Nat) (W : World) :
    Calls Try.prog 27 #[.pointer (some ⟨bx, 0, none⟩), .agg #[.int .u8 (a : Int), .int .u8 (n : Int)]] W fun e W' => e = .returned (.bool true) ∧ Step [] W W' := by
  have x0 : ((a : Int) == 0) = false := by simp; omega
  have x1 : ((a : Int) == 1) = false := by simp; omega
  have x2 : ((a : Int) == 2) = false := by simp; omega
  have x3 : ((a : Int) == 3) = false := by simp; omega
  have x4 : ((a : Int) == 4) = false := by simp; omega
  have x5 : ((a : Int) == 5) = false := by simp; omega
  have x6 : ((a : Int) == 6) = false := by simp; omega
  have x7 : ((a : Int) == 7) = false := by simp; omega
  have x8 : ((a : Int) == 8) = false := by simp; omega
  clear ha
  go_enter Try.func27, Try.ntmps27
  go_wp2
  go_ret
  exact ⟨rfl, Step.alloc _ _⟩

set_option maxRecDepth 100000 in
set_option maxHeartbeats 2000000 in
theorem does_spend (B n : Nat) (a : Int) (ha : a = 0 ∨ a = 1 ∨ a = 2) (hn : n < 256) (bx bs bg m g p G t u sp us : Nat) (v1 v2 : Value) (way gs : List Nat) (hm : 1 ≤ m) (hp : p ≤ g) (hg : g < 1000000) (hsp : sp < 1000000) (hw : way.length < 1000) (W : World)
    (h : Ends B W bx bs bg m g p G t u sp us v1 v2 way gs) (hle : n ≤ g - p) :
    Calls Try.prog 27 #[.pointer (some ⟨bx, 0, none⟩), .agg #[.int .u8 a, .int .u8 (n : Int)]] W fun e W' => e = .returned (.bool true) ∧ ∃ v', Ends B W' bx bs bg m g (p + n) G t u (sp + n) us v' v2 (way ++ [n]) gs ∧ StepB B W W' := by
  obtain ⟨i0, hi, hz0, hz1, hz2⟩ := info_parts info3
  obtain ⟨c0, c1, c2, c3, c4, c5⟩ := h.cells1
  have H := Lib.hid h
  have HP := Lib.hid hp
  have HM := Lib.hid hm
  have HG := Lib.hid (show g < 4611686018427387904 by omega)
  have HN := Lib.hid (show (n : Int) < 9223372036854775808 by omega)
  have HLE := Lib.hid hle
  have HW := Lib.hid hw
  have t1 : ((n : Int) ≤ ((g - p : Nat) : Int)) = True := by simp; omega
  obtain ⟨q, hq⟩ : ∃ q, q = sp + n := ⟨_, rfl⟩
  have hwr : IntKind.i64.wrap ((sp : Int) + (n : Int)) = (q : Int) := by rw [IntKind.wrap_i64]; omega
  rw [← hq]
  clear h hp hg hle hw hm hsp hq
  rcases ha with rfl | rfl | rfl
  all_goals
    go_enter Try.func27, Try.ntmps27
    go_wp2_with fail
    refine (left_any bs m g p HM.out HP.out HG.out _ (H.out.same (Step.alloc _ _)).xs).mono ?_
    rintro e w1 ⟨rfl, k, hw1⟩
    have hs1 : Step [] W w1 := by rw [hw1]; exact (Step.alloc _ _).trans (Step.drewN _ _)
    have H1 := Lib.hid (H.out.same hs1)
    have HS1 := Lib.hid (StepB.of (B := B) hs1)
    clear hw1 hs1 c0 c1 c2 c3 c4 c5
    obtain ⟨c0, c1, c2, c3, c4, c5, f2, f3, f4, f5⟩ := H1.out.cells
    go_wp2_with fail
    refine (spend_is bs m g p (p + n) n 0 HN.out HM.out HP.out HG.out (amt_ok HLE.out) (paid_ok HLE.out) _ H1.out.xs).mono ?_
    rintro e w2 ⟨rfl, hh, hs2⟩
    have H2 := Lib.hid (H1.out.turnS hs2 hh)
    replace HS1 := Lib.hid (HS1.out.trans (StepB.one hs2 H1.out.bs0))
    clear hh hs2 H1 c0 c1 c2 c3 c4 c5 f2 f3 f4 f5
    obtain ⟨c0, c1, c2, c3, c4, c5, f2, f3, f4, f5⟩ := H2.out.cells
    obtain ⟨k3, k3s⟩ := H2.out.putSp q
    have H3 := Lib.hid k3
    replace HS1 := Lib.hid (HS1.out.trans (StepB.one k3s H2.out.bx0))
    obtain ⟨d0, d1, d2, d3, d4, d5⟩ := k3.cells1
    obtain ⟨q0, q1, q2, q3, q4, q5, _, _, _, _⟩ := k3.cells
    clear k3 k3s
    go_wp2_with (at_builtin; refine wpList_push _ rfl _ _ 53 rfl 3 i0 (.int .i64 0) 8 Try.underlying53 hi hz0 hz1 hz2 rfl B v1 (way.map ival) rfl (H3.out.same (Step.alloc _ _)).xw rfl ⟨w2.heap.size, 0, none⟩ 1 (.int .i64 (n : Int)) rfl (cell_new1 (by simp)) (by simp [Value.oneCell']) (by have := HW.out; simp; omega) (by omega) (Nat.le_trans H3.out.size (Step.alloc (S := []) _ _).size) ?_; intro v' w4 hown hst hblk; obtain ⟨qa, na, ca, rfl⟩ := hown.slice; obtain ⟨hE, hSB, hc, hf⟩ := (H3.out.same (Step.alloc _ _)).grewW hst (way' := way ++ [n]) (by simpa [ival] using hown) hblk; have HE := Lib.hid hE; have HSB := Lib.hid hSB; clear hE hSB hown hst hblk)
    go_ret
    exact ⟨rfl, _, HE.out, HS1.out.trans ((StepB.of (Step.alloc _ _)).trans HSB.out)⟩
set_option maxRecDepth 100000 in
set_option maxHeartbeats 2000000 in
theorem does_over (B n : Nat) (a : Int) (ha : a = 0 ∨ a = 1 ∨ a = 2) (hn : n < 256) (bx bs bg m g p G t u sp us : Nat) (v1 v2 : Value) (way gs : List Nat) (hm : 1 ≤ m) (hp : p ≤ g) (hg : g < 1000000) (W : World)
    (h : Ends B W bx bs bg m g p G t u sp us v1 v2 way gs) (hle : g - p < n) :
    Calls Try.prog 27 #[.pointer (some ⟨bx, 0, none⟩), .agg #[.int .u8 a, .int .u8 (n : Int)]] W fun e W' => e = .returned (.bool true) ∧ Ends B W' bx bs bg m g p G t u sp us v1 v2 way gs ∧ StepB B W W' := by
  obtain ⟨c0, c1, c2, c3, c4, c5⟩ := h.cells1
  have H := Lib.hid h
  have HP := Lib.hid hp
  have HM := Lib.hid hm
  have HG := Lib.hid (show g < 4611686018427387904 by omega)
  have HN := Lib.hid (show (n : Int) < 9223372036854775808 by omega)
  have HLE := Lib.hid hle
  have t1 : ((n : Int) ≤ ((g - p : Nat) : Int)) = False := by simp; omega
  clear h hp hg hle hm
  rcases ha with rfl | rfl | rfl
  all_goals
    go_enter Try.func27, Try.ntmps27
    go_wp2_with fail
    refine (left_any bs m g p HM.out HP.out HG.out _ (H.out.same (Step.alloc _ _)).xs).mono ?_
    rintro e w1 ⟨rfl, k, hw1⟩
    have hs1 : Step [] W w1 := by rw [hw1]; exact (Step.alloc _ _).trans (Step.drewN _ _)
    have H1 := Lib.hid (H.out.same hs1)
    have HS1 := Lib.hid (StepB.of (B := B) hs1)
    clear hw1 hs1 c0 c1 c2 c3 c4 c5
    obtain ⟨c0, c1, c2, c3, c4, c5, f2, f3, f4, f5⟩ := H1.out.cells
    go_wp2_with fail
    refine (spend_is bs m g p p n 8 HN.out HM.out HP.out HG.out (amt_over HLE.out) (paid_over HLE.out) _ H1.out.xs).mono ?_
    rintro e w2 ⟨rfl, hh, hs2⟩
    have H2 := Lib.hid (H1.out.turnS hs2 hh)
    replace HS1 := Lib.hid (HS1.out.trans (StepB.one hs2 H1.out.bs0))
    clear hh hs2 H1 c0 c1 c2 c3 c4 c5 f2 f3 f4 f5
    obtain ⟨c0, c1, c2, c3, c4, c5, f2, f3, f4, f5⟩ := H2.out.cells
    go_wp2_with fail
    refine (left_any bs m g p HM.out HP.out HG.out _ H2.out.xs).mono ?_
    rintro e w3 ⟨rfl, k2, hw3⟩
    have hs3 : Step [] w2 w3 := by rw [hw3]; exact Step.drewN _ _
    have H3 := Lib.hid (H2.out.same hs3)
    replace HS1 := Lib.hid (HS1.out.trans (StepB.of hs3))
    clear hw3 hs3
    go_wp2
    go_ret
    exact ⟨rfl, H3.out, HS1.out⟩

set_option maxRecDepth 100000 in
set_option maxHeartbeats 2000000 in
theorem does_grant (B n : Nat) (a : Int) (ha : a = 7) (hn : n < 256) (bx bs bg m g p G t u sp us : Nat) (v1 v2 : Value) (way gs : List Nat) (hm : 1 ≤ m) (hm2 : m ≤ 8192) (hgu : G ≤ u + m) (hu : u < 1000000) (hw : gs.length < 1000) (W : World)
    (h : Ends B W bx bs bg m g p G t u sp us v1 v2 way gs) :
    Calls Try.prog 27 #[.pointer (some ⟨bx, 0, none⟩), .agg #[.int .u8 a, .int .u8 (n : Int)]] W fun e W' => e = .returned (.bool true) ∧ ∃ v', Ends B W' bx bs bg m g p (dueG m G u) t u sp us v1 v' way (if due m G u = true then gs ++ [dueN m G u] else gs) ∧ StepB B W W' := by
  obtain ⟨i0, hi, hz0, hz1, hz2⟩ := info_parts info3
  obtain ⟨c0, c1, c2, c3, c4, c5⟩ := h.cells1
  have H := Lib.hid h
  have HM := Lib.hid hm
  have HM2 := Lib.hid hm2
  have HGU := Lib.hid hgu
  have HU := Lib.hid (show u < 4611686018427387904 by omega)
  have HW := Lib.hid hw
  have hwr : IntKind.i64.wrap (dueN m G u : Int) = (dueN m G u : Int) := by have : dueN m G u ≤ u + m := by { unfold dueN; split <;> omega }; rw [IntKind.wrap_i64]; omega
  have HGR := fun w h => grant_any bg m G t u HM.out HM2.out HGU.out HU.out w h
  have HGX := Lib.hid HGR
  clear h hgu hu hw hm hm2 HGR
  generalize dueN m G u = dn at *
  generalize dueG m G u = G2 at *
  cases hdb : due m G u
  all_goals
    rw [hdb] at HGX
    clear hdb
    subst ha
    go_enter Try.func27, Try.ntmps27
    go_wp2_with fail
    refine (HGX.out _ (H.out.same (Step.alloc _ _)).xg).mono ?_
    rintro e w1 ⟨rfl, hh, hs⟩
    have H1 := Lib.hid ((H.out.same (Step.alloc W _)).turnG hs hh)
    have HS1 := Lib.hid (StepB.trans (StepB.of (B := B) (Step.alloc W _)) (StepB.one hs H.out.bg0))
    clear hh hs c0 c1 c2 c3 c4 c5
    obtain ⟨c0, c1, c2, c3, c4, c5, f2, f3, f4, f5⟩ := H1.out.cells
  · go_wp2
    go_ret
    first | exact ⟨rfl, ⟨_, H1.out⟩, HS1.out⟩ | exact ⟨rfl, _, H1.out, HS1.out⟩
  · go_wp2_with (at_builtin; refine wpList_push _ rfl _ _ 53 rfl 3 i0 (.int .i64 0) 8 Try.underlying53 hi hz0 hz1 hz2 rfl B v2 (gs.map ival) rfl (H1.out.same (Step.alloc _ _)).xq rfl ⟨w1.heap.size, 0, none⟩ 1 (.int .i64 (dn : Int)) rfl (cell_new1 (by simp)) (by simp [Value.oneCell']) (by have := HW.out; simp; omega) (by omega) (Nat.le_trans H1.out.size (Step.alloc (S := []) _ _).size) ?_; intro v' w4 hown hst hblk; obtain ⟨qa, na, ca, rfl⟩ := hown.slice; obtain ⟨hE, hSB, hc, hf⟩ := (H1.out.same (Step.alloc _ _)).grewG hst (gs' := gs ++ [dn]) (by simpa [ival] using hown) hblk; have HE := Lib.hid hE; have HSB := Lib.hid hSB; clear hE hSB hown hst hblk)
    go_ret
    first | exact ⟨rfl, ⟨_, HE.out⟩, HS1.out.trans ((StepB.of (Step.alloc _ _)).trans HSB.out)⟩ | exact ⟨rfl, _, HE.out, HS1.out.trans ((StepB.of (Step.alloc _ _)).trans HSB.out)⟩

set_option maxRecDepth 100000 in
set_option maxHeartbeats 2000000 in
theorem does_use (B n : Nat) (a : Int) (ha : a = 5 ∨ a = 6) (hn : n < 256) (bx bs bg m g p G t u sp us : Nat) (v1 v2 : Value) (way gs : List Nat) (hm : 1 ≤ m) (hut : u ≤ t) (ht : t < 1000000) (hus : us < 1000000) (W : World)
    (h : Ends B W bx bs bg m g p G t u sp us v1 v2 way gs) :
    Calls Try.prog 27 #[.pointer (some ⟨bx, 0, none⟩), .agg #[.int .u8 a, .int .u8 (n : Int)]] W fun e W' => e = .returned (.bool true) ∧ Ends B W' bx bs bg m g p G t (u + min n (t - u)) sp (us + min n (t - u)) v1 v2 way gs ∧ StepB B W W' := by
  obtain ⟨c0, c1, c2, c3, c4, c5⟩ := h.cells1
  have H := Lib.hid h
  have HM := Lib.hid hm
  have HUT := Lib.hid hut
  have HT := Lib.hid (show t < 4611686018427387904 by omega)
  by_cases hlt : t - u < n
  all_goals
    obtain ⟨k, hk⟩ : ∃ k, k = min n (t - u) := ⟨_, rfl⟩
    rw [← hk]
    obtain ⟨q, hq⟩ : ∃ q, q = us + k := ⟨_, rfl⟩
    obtain ⟨r, hr⟩ : ∃ r, r = t - (u + k) := ⟨_, rfl⟩
    have hwr : IntKind.i64.wrap ((us : Int) + (k : Int)) = (q : Int) := by rw [IntKind.wrap_i64]; omega
    have hwr2 : IntKind.i64.wrap ((r : Int) + 1) = (r : Int) + 1 := by rw [IntKind.wrap_i64]; omega
    have HK := Lib.hid (show k ≤ t - u by omega)
    have HKN := Lib.hid (show (k : Int) < 9223372036854775808 by omega)
    have HR := Lib.hid hr
    have HRB := Lib.hid (show r < 1000000 by omega)
    rw [← hq]
  · have hkl : ((t - u : Nat) : Int) = (k : Int) := by omega
    have tl : ((k : Int) < (n : Int)) = True := by simp; omega

    clear h hut ht hus hm hk hq hr hlt
    rcases ha with rfl | rfl
    all_goals
      go_enter Try.func27, Try.ntmps27
      go_wp2_with fail
      refine (held_is bg m G t u (k : Int) HM.out HUT.out HT.out hkl _ (H.out.same (Step.alloc _ _)).xg).mono ?_
      rintro e w1 ⟨rfl, hh, hs⟩
      have H1 := Lib.hid ((H.out.same (Step.alloc W _)).turnG hs hh)
      have HS1 := Lib.hid (StepB.trans (StepB.of (B := B) (Step.alloc W _)) (StepB.one hs H.out.bg0))
      clear hh hs c0 c1 c2 c3 c4 c5
      go_wp2_with fail
      
      have k1 : w1.drew.cell? ⟨bx, 1, none⟩ = some (.pointer (some ⟨bg, 0, none⟩)) := H1.out.cells.2.1
      have H2 := Lib.hid (H1.out.same (Step.drew w1))
      have HU0 := Lib.hid (Eq.refl k)
      replace HS1 := Lib.hid (HS1.out.trans (StepB.of (Step.drew w1)))
      clear H1 hkl tl
      go_region_held3 (fun W => W.cell? ⟨bx, 1, none⟩ = some (.pointer (some ⟨bg, 0, none⟩))) (first | exact k1 | exact H2.out.cells.2.1)
        (first
          | (go_at_call 21; have hu0 := HU0.out; clear HU0; refine (use_is bg m G t u (u + k) k 0 HKN.out HM.out HUT.out HT.out (amt_ok HK.out) (paid_ok HK.out) _ H2.out.xg).mono ?_; rintro e w' ⟨rfl, hh, hs⟩; replace HS1 := Lib.hid (HS1.out.trans (StepB.one hs H2.out.bg0)); replace H2 := Lib.hid (H2.out.turnG hs hh); have HU1 := Lib.hid hu0; clear hh hs hu0)
          | (go_at_call 26; have hu1 := HU1.out; clear HU1; refine (held_is bg m G t (u + k) (r : Int) HM.out (by have := HK.out; have := HUT.out; omega) HT.out (by have := HR.out; omega) _ H2.out.xg).mono ?_; rintro e w' ⟨rfl, hh, hs⟩; replace HS1 := Lib.hid (HS1.out.trans (StepB.one hs H2.out.bg0)); replace H2 := Lib.hid (H2.out.turnG hs hh); have HU2 := Lib.hid hu1; clear hh hs hu1)
          | (go_at_call 21; have hu2 := HU2.out; clear HU2; refine (use_is bg m G t (u + k) (u + k) ((r : Int) + 1) 1 (by have := HRB.out; omega) HM.out (by have := HK.out; have := HUT.out; omega) HT.out (amt_over (n := r + 1) (by have := HR.out; omega)) (paid_over (n := r + 1) (by have := HR.out; omega)) _ H2.out.xg).mono ?_; rintro e w' ⟨rfl, hh, hs⟩; replace HS1 := Lib.hid (HS1.out.trans (StepB.one hs H2.out.bg0)); replace H2 := Lib.hid (H2.out.turnG hs hh); clear hh hs hu2))
      (try clear hHeld)
      obtain ⟨c0, c1, c2, c3, c4, c5, f2, f3, f4, f5⟩ := H2.out.cells
      obtain ⟨h5, h5s⟩ := H2.out.putUs q
      have H5 := Lib.hid h5
      replace HS1 := Lib.hid (HS1.out.trans (StepB.one h5s H2.out.bx0))
      clear h5 h5s
      go_wp2
      go_ret
      exact ⟨rfl, H5.out, HS1.out⟩
  · obtain rfl : k = n := by omega
    have tl : (((t - u : Nat) : Int) < (k : Int)) = False := by simp; omega
    clear h hut ht hus hm hk hq hr hlt
    rcases ha with rfl | rfl
    all_goals
      go_enter Try.func27, Try.ntmps27
      go_wp2_with fail
      refine (held_is bg m G t u ((t - u : Nat) : Int) HM.out HUT.out HT.out rfl _ (H.out.same (Step.alloc _ _)).xg).mono ?_
      rintro e w1 ⟨rfl, hh, hs⟩
      have H1 := Lib.hid ((H.out.same (Step.alloc W _)).turnG hs hh)
      have HS1 := Lib.hid (StepB.trans (StepB.of (B := B) (Step.alloc W _)) (StepB.one hs H.out.bg0))
      clear hh hs c0 c1 c2 c3 c4 c5
      go_wp2_with fail
      have k1 : w1.drew.cell? ⟨bx, 1, none⟩ = some (.pointer (some ⟨bg, 0, none⟩)) := H1.out.cells.2.1
      have H2 := Lib.hid (H1.out.same (Step.drew w1))
      have HU0 := Lib.hid (Eq.refl k)
      replace HS1 := Lib.hid (HS1.out.trans (StepB.of (Step.drew w1)))
      clear H1 tl
      go_region_held3 (fun W => W.cell? ⟨bx, 1, none⟩ = some (.pointer (some ⟨bg, 0, none⟩))) (first | exact k1 | exact H2.out.cells.2.1)
        (first
          | (go_at_call 21; have hu0 := HU0.out; clear HU0; refine (use_is bg m G t u (u + k) k 0 HKN.out HM.out HUT.out HT.out (amt_ok HK.out) (paid_ok HK.out) _ H2.out.xg).mono ?_; rintro e w' ⟨rfl, hh, hs⟩; replace HS1 := Lib.hid (HS1.out.trans (StepB.one hs H2.out.bg0)); replace H2 := Lib.hid (H2.out.turnG hs hh); have HU1 := Lib.hid hu0; clear hh hs hu0)
          | (go_at_call 26; have hu1 := HU1.out; clear HU1; refine (held_is bg m G t (u + k) (r : Int) HM.out (by have := HK.out; have := HUT.out; omega) HT.out (by have := HR.out; omega) _ H2.out.xg).mono ?_; rintro e w' ⟨rfl, hh, hs⟩; replace HS1 := Lib.hid (HS1.out.trans (StepB.one hs H2.out.bg0)); replace H2 := Lib.hid (H2.out.turnG hs hh); have HU2 := Lib.hid hu1; clear hh hs hu1)
          | (go_at_call 21; have hu2 := HU2.out; clear HU2; refine (use_is bg m G t (u + k) (u + k) ((r : Int) + 1) 1 (by have := HRB.out; omega) HM.out (by have := HK.out; have := HUT.out; omega) HT.out (amt_over (n := r + 1) (by have := HR.out; omega)) (paid_over (n := r + 1) (by have := HR.out; omega)) _ H2.out.xg).mono ?_; rintro e w' ⟨rfl, hh, hs⟩; replace HS1 := Lib.hid (HS1.out.trans (StepB.one hs H2.out.bg0)); replace H2 := Lib.hid (H2.out.turnG hs hh); clear hh hs hu2))
      (try clear hHeld)
      obtain ⟨c0, c1, c2, c3, c4, c5, f2, f3, f4, f5⟩ := H2.out.cells
      obtain ⟨h5, h5s⟩ := H2.out.putUs q
      have H5 := Lib.hid h5
      replace HS1 := Lib.hid (HS1.out.trans (StepB.one h5s H2.out.bx0))
      clear h5 h5s
      go_wp2
      go_ret
      exact ⟨rfl, H5.out, HS1.out⟩
end Go.Proofs.Ytnomnhlfenhjdaa
