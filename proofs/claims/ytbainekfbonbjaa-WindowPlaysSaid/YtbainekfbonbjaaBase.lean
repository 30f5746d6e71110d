/- The frame calculus and the laws on a range over a function that the walks of this seat share. No statement is proved here; nothing is assumed. -/
import Derived.RangeFuncNested
import Derived.RangeFuncBound
import Derived.RangeFuncCalls
import Derived.RangeFuncLeaves
import Derived.RangeFuncBox
import Derived.Shelf.Abstract
import Derived.WalkKit
import Derived.WalkLawsBesides
import Derived.Maps.AppendAt
import Derived.Lib.Hide
namespace Go.Proofs.Ytbainekfbonbjaa
open Go.RowKit Go.Shelf
set_option linter.unusedVariables false

/-! ### Objects that the walk keeps for itself: loop records, the blocks of deferred calls, iterators over maps and strings -/
def isBook : Obj → Bool
  | .loop _ => true
  | .deferred _ => true
  | .mapIter .. => true
  | .stringIter .. => true
  | _ => false

/-- What an iterator may do to the world behind its caller's back: new blocks; its own book-keeping, laid at or beyond B. -/
structure Calm (B : Nat) (W W' : World) : Prop where
  os : W'.os = W.os
  tape : W'.tape = W.tape
  output : W'.output = W.output
  size : W.heap.size ≤ W'.heap.size
  keep : ∀ (k : Nat) (o : Obj), W.heap[k]? = some o → (isBook o = false ∨ k < B) → W'.heap[k]? = some o

theorem heap_lt {W : World} {k : Nat} {o : Obj} (h : W.heap[k]? = some o) : k < W.heap.size := (Array.getElem?_eq_some_iff.1 h).1

theorem Calm.refl (B : Nat) (W : World) : Calm B W W := ⟨rfl, rfl, rfl, Nat.le_refl _, fun _ _ h _ => h⟩
theorem Calm.trans {B : Nat} {X Y Z : World} (h : Calm B X Y) (k : Calm B Y Z) : Calm B X Z :=
  ⟨k.os.trans h.os, k.tape.trans h.tape, k.output.trans h.output, Nat.le_trans h.size k.size, fun i o hi ho => k.keep i o (h.keep i o hi ho) ho⟩
theorem Calm.mono {B B' : Nat} {X Y : World} (h : Calm B X Y) (hB : B' ≤ B) : Calm B' X Y :=
  ⟨h.os, h.tape, h.output, h.size, fun k o hk ho => h.keep k o hk (ho.imp id (fun h => Nat.lt_of_lt_of_le h hB))⟩
theorem Calm.alloc (B : Nat) (W : World) (o : Obj) : Calm B W (W.alloc o) :=
  ⟨rfl, rfl, rfl, by simp, fun k _ hk _ => (Below.heap_alloc W o k (heap_lt hk)).trans hk⟩
theorem Calm.drew (B : Nat) (W : World) : Calm B W W.drew := ⟨rfl, rfl, rfl, Nat.le_refl _, fun _ _ h _ => h⟩
theorem Calm.putObj {B : Nat} {W : World} {l : Nat} {o : Obj} (o' : Obj) (hl : W.heap[l]? = some o) (hb : isBook o = true) (hB : B ≤ l) : Calm B W (W.putObj l o') :=
  ⟨rfl, rfl, rfl, by simp, fun k u hk hu => by
    by_cases e : k = l
    · subst e; rw [hl] at hk; cases hk
      rcases hu with hu | hu
      · rw [hb] at hu; cases hu
      · omega
    · exact (World.putObj_heap_other e).trans hk⟩

/-- J does not mind what an iterator does behind its back. -/
def Abide (B : Nat) {σ : Type} (J : σ → World → Prop) : Prop := ∀ s W W', J s W → Calm B W W' → J s W'

theorem Abide.mono {B B' : Nat} {σ : Type} {J : σ → World → Prop} (h : Abide B J) (hB : B ≤ B') : Abide B' J :=
  fun s W W' hj hc => h s W W' hj (hc.mono hB)
theorem Abide.and {B : Nat} {σ : Type} {J K : σ → World → Prop} (h : Abide B J) (k : Abide B K) : Abide B (fun s W => J s W ∧ K s W) :=
  fun s W W' hj hc => ⟨h s W W' hj.1 hc, k s W W' hj.2 hc⟩
theorem abide_const (B : Nat) {σ : Type} (p : σ → Prop) : Abide B (fun s (_ : World) => p s) := fun _ _ _ h _ => h
theorem abide_false (B : Nat) {σ : Type} : Abide B (fun (_ : σ) (_ : World) => False) := fun _ _ _ h _ => h

/-- The element types of variables that are never written again behind their making: function values (the numbers of this seat's types). -/
def heldType (t : TypeId) : Bool := t == 27 || t == 28 || t == 123
/-- What no round writes: book-keeping, and variables that hold a function. -/
def isHeld : Obj → Bool
  | .cells _ t _ => heldType t
  | o => isBook o
theorem held_of_book {o : Obj} (h : isBook o = true) : isHeld o = true := by cases o <;> first | exact h | (simp [isBook] at h)

/-- All that is held lies as it lay, but for the blocks of X (records of loops around). -/
def BookX (X : List Nat) (W W' : World) : Prop := ∀ (k : Nat) (o : Obj), W.heap[k]? = some o → isHeld o = true → k ∉ X → W'.heap[k]? = some o
theorem BookX.refl (X : List Nat) (W : World) : BookX X W W := fun _ _ h _ _ => h
theorem BookX.trans {X : List Nat} {A B C : World} (h : BookX X A B) (k : BookX X B C) : BookX X A C := fun i o hi ho hx => k i o (h i o hi ho hx) ho hx
theorem BookX.mono {X Y : List Nat} {A B : World} (h : BookX X A B) (hX : ∀ k ∈ X, k ∈ Y) : BookX Y A B := fun i o hi ho hx => h i o hi ho (fun hm => hx (hX i hm))
theorem BookX.nil {X : List Nat} {A B : World} (h : BookX [] A B) : BookX X A B := h.mono (fun _ h => by cases h)
theorem abide_bookX {X : List Nat} {w0 : World} {B : Nat} (hB : w0.heap.size ≤ B) {σ : Type} : Abide B (fun (_ : σ) W => BookX X w0 W) :=
  fun _ W W' h hc k o hk ho hx => hc.keep k o (h k o hk ho hx) (.inr (by have := heap_lt hk; omega))
theorem Calm.bookX {B : Nat} {W W' : World} {X : List Nat} (hc : Calm B W W') (hB : W.heap.size ≤ B) : BookX X W W' := fun k o hk _ _ => hc.keep k o hk (.inr (by have := heap_lt hk; omega))

/-! ### Steps: S lists the old blocks that may have turned -/
structure Step (S : List Nat) (W W' : World) : Prop where
  os : W'.os = W.os
  tape : W'.tape = W.tape
  output : W'.output = W.output
  size : W.heap.size ≤ W'.heap.size
  same : ∀ (k : Nat), k < W.heap.size → k ∉ S → W'.heap[k]? = W.heap[k]?
  book : BookX [] W W'

theorem Step.refl (S : List Nat) (W : World) : Step S W W := ⟨rfl, rfl, rfl, Nat.le_refl _, fun _ _ _ => rfl, fun _ _ h _ _ => h⟩
theorem Step.trans' {S T U : List Nat} {X Y Z : World} (h : Step S X Y) (k : Step T Y Z) (hS : ∀ i, i ∈ S → i < X.heap.size → i ∈ U) (hT : ∀ i, i ∈ T → i < X.heap.size → i ∈ U) : Step U X Z :=
  ⟨k.os.trans h.os, k.tape.trans h.tape, k.output.trans h.output, Nat.le_trans h.size k.size,
    fun i hi hU => (k.same i (Nat.lt_of_lt_of_le hi h.size) (fun hm => hU (hT i hm hi))).trans (h.same i hi (fun hm => hU (hS i hm hi))),
    h.book.trans k.book⟩
theorem Step.trans {S : List Nat} {X Y Z : World} (h : Step S X Y) (k : Step S Y Z) : Step S X Z := h.trans' k (fun _ h _ => h) (fun _ h _ => h)
theorem Step.mono {S U : List Nat} {X Y : World} (h : Step S X Y) (hS : ∀ i, i ∈ S → i < X.heap.size → i ∈ U) : Step U X Y :=
  ⟨h.os, h.tape, h.output, h.size, fun i hi hU => h.same i hi (fun hm => hU (hS i hm hi)), h.book⟩
theorem Step.nil_mono {U : List Nat} {X Y : World} (h : Step [] X Y) : Step U X Y := h.mono (fun _ h _ => by cases h)
theorem Step.alloc {S : List Nat} (W : World) (o : Obj) : Step S W (W.alloc o) :=
  ⟨rfl, rfl, rfl, by simp, fun k hk _ => Below.heap_alloc W o k hk, fun k _ hk _ _ => (Below.heap_alloc W o k (heap_lt hk)).trans hk⟩
theorem Step.drew {S : List Nat} (W : World) : Step S W W.drew := ⟨rfl, rfl, rfl, Nat.le_refl _, fun _ _ _ => rfl, fun _ _ h _ _ => h⟩
theorem Step.setCell {S : List Nat} (W : World) (a : Addr) (v : Value) (h : a.block ∈ S ∨ W.heap.size ≤ a.block) (hh : ∀ o, W.heap[a.block]? = some o → isHeld o = false) : Step S W (W.setCell a v) :=
  ⟨rfl, rfl, rfl, by show W.heap.size ≤ (W.heap.modify _ _).size; rw [Array.size_modify]; exact Nat.le_refl _,
    fun k hk hS => Below.heap_setCell W a v k (fun e => by subst e; rcases h with h | h; exact hS h; omega),
    fun k o hk ho _ => (Below.heap_setCell W a v k (fun e => by subst e; have := hh o hk; rw [ho] at this; cases this)).trans hk⟩
theorem Step.putObj {S : List Nat} {W : World} {l : Nat} {o : Obj} (o' : Obj) (hl : W.heap[l]? = some o) (hb : isHeld o = false) (hS : l ∈ S) : Step S W (W.putObj l o') :=
  ⟨rfl, rfl, rfl, by simp, fun k hk hn => World.putObj_heap_other (fun e => hn (e ▸ hS)), fun k u hk hu _ => by
    by_cases e : k = l
    · subst e; rw [hl] at hk; cases hk; rw [hb] at hu; cases hu
    · exact (World.putObj_heap_other e).trans hk⟩
theorem Step.grown {S : List Nat} {W W' : World} {row : Option Nat} (hg : W.grownBy W' row) (hr : ∀ j, row = some j → (j ∈ S ∨ W.heap.size ≤ j) ∧ ∀ o, W.heap[j]? = some o → isHeld o = false) : Step S W W' :=
  ⟨hg.os, hg.tape, hg.output, hg.size, fun k hk hS => hg.block k hk (fun e => by rcases (hr k e.symm).1 with h | h; exact hS h; omega), fun k o hk ho _ => by
    refine (hg.block k (heap_lt hk) (fun e => ?_)).trans hk
    have := (hr k e.symm).2 o hk; rw [ho] at this; cases this⟩
theorem Step.below {W W' : World} (h : Step [] W W') : Below W.heap.size W W' :=
  ⟨h.os, h.tape, h.output, h.size, fun k hk => h.same k hk (by simp)⟩
theorem Step.belowOf {S : List Nat} {B : Nat} {W W' : World} (h : Step S W W') (hB : B ≤ W.heap.size) (hS : ∀ i, i ∈ S → B ≤ i) : Below B W W' :=
  ⟨h.os, h.tape, h.output, h.size, fun k hk => h.same k (by omega) (fun hm => by have := hS k hm; omega)⟩

/-- A step as the body of a round sees it, from a world w0 that lay before: what an invariant carries. -/
theorem abide_step {S : List Nat} {w0 : World} {B : Nat} (hB : w0.heap.size ≤ B) {σ : Type} : Abide B (fun (_ : σ) W => Step S w0 W) :=
  fun _ W W' h hc => by
    refine ⟨hc.os.trans h.os, hc.tape.trans h.tape, hc.output.trans h.output, Nat.le_trans h.size hc.size, fun k hk hS => ?_, fun k o hk ho hx => ?_⟩
    · have h1 := h.same k hk hS
      cases e : W.heap[k]? with
      | none =>
        have : W.heap.size ≤ k := by simpa using e
        have := h.size; omega
      | some o => rw [← h1, e]; exact hc.keep k o e (.inr (by omega))
    · exact hc.keep k o (h.book k o hk ho hx) (.inr (by have := heap_lt hk; omega))

theorem Step.calm {S : List Nat} {B : Nat} {w0 W W' : World} (h : Step S w0 W) (hc : Calm B W W') (hB : w0.heap.size ≤ B) : Step S w0 W' := abide_step (σ := Unit) hB () W W' h hc

/-! ### What lies in a block goes along -/
theorem obj_calm {B : Nat} {W W' : World} {k : Nat} {o : Obj} (h : W.heap[k]? = some o) (hc : Calm B W W') (hb : isBook o = false) : W'.heap[k]? = some o := hc.keep k o h (.inl hb)
theorem obj_step {S : List Nat} {W W' : World} {k : Nat} {o : Obj} (h : W.heap[k]? = some o) (hs : Step S W W') (hk : k ∉ S) : W'.heap[k]? = some o := (hs.same k (heap_lt h) hk).trans h
theorem boxed_calm {B : Nat} {W W' : World} {k : Nat} {t : TypeId} {v : Value} (h : Boxed W k t v) (hc : Calm B W W') : Boxed W' k t v := hc.keep k _ h (.inl rfl)
theorem boxed_step {S : List Nat} {W W' : World} {k : Nat} {t : TypeId} {v : Value} (h : Boxed W k t v) (hs : Step S W W') (hk : k ∉ S) : Boxed W' k t v := obj_step h hs hk

/-- The block of a slice's row. -/
theorem row_calm {B : Nat} {W W' : World} {base : Nat} {e : TypeId} {size : Nat} {v : Value} {n : Nat} {xs : List Value} (h : W.ownsRow base e size v n xs) (hc : Calm B W W') : W'.ownsRow base e size v n xs := by
  refine ⟨h.1, ?_⟩
  rcases h.2 with hn | ⟨g, cap, cur, rfl, hb, hg, rest⟩
  · exact .inl hn
  · exact .inr ⟨g, cap, cur, rfl, hb, hc.keep g _ hg (.inl rfl), rest⟩
theorem row_step {S : List Nat} {W W' : World} {base : Nat} {e : TypeId} {size : Nat} {v : Value} {n : Nat} {xs : List Value} (h : W.ownsRow base e size v n xs) (hs : Step S W W') (hk : ∀ g, v.ownBlock = some g → g ∉ S) : W'.ownsRow base e size v n xs := by
  refine ⟨h.1, ?_⟩
  rcases h.2 with hn | ⟨g, cap, cur, rfl, hb, hg, rest⟩
  · exact .inl hn
  · exact .inr ⟨g, cap, cur, rfl, hb, obj_step hg hs (hk g rfl), rest⟩

/-! ### Contracts at the wide fence, in and out of a round -/
section
variable {P : Program}
abbrev WF : Fence := Fence.wide
attribute [local go_sem] Oper.semAt_some
@[simp, go_sem] theorem wide_fn (f : FuncId) : Fence.wide.fn f = True := rfl
@[simp, go_sem] theorem wide_depth : Fence.wide.depth = none := rfl

theorem inR {l n : Nat} {f : FuncId} {args : Array Value} {w : World} {R : Ending → World → Prop} (h : Calls P f args w R) : CallsIn (Fence.wide.inRound l) n P f args w R := CallsIn.inRound l (callsIn_wide.2 h)
theorem inW {n : Nat} {f : FuncId} {args : Array Value} {w : World} {R : Ending → World → Prop} (h : Calls P f args w R) : CallsIn Fence.wide n P f args w R := callsIn_wide.2 h

theorem roundR {l l' n : Nat} {f : FuncId} {tmps : Array Value} {assign body : Code} {w : World} {R : Ending → World → Prop} (h : RoundIn Fence.wide n P l' f tmps assign body w R) : RoundIn (Fence.wide.inRound l) n P l' f tmps assign body w R := h

/-- A call of yield at record l, at the wide fence. -/
abbrev Yields (P : Program) (l : Nat) (args : Array Value) (W : World) (R : Ending → World → Prop) : Prop := YieldAt Fence.wide 0 P l args W R

/-- What a round answers. -/
def Answers {α : Type} (J Jx : List α → World → Prop) (pre : List α) (e : Ending) (W : World) : Prop :=
  (e = .returned (.bool true) ∧ J pre W) ∨ (e = .returned (.bool false) ∧ Jx pre W)

/-- How an iterator ends. -/
def Gave {α : Type} (fin : List α → Prop) (J Jx : List α → World → Prop) (e : Ending) (W' : World) : Prop :=
  (∃ v, e = .returned v) ∧ ((∃ xs, fin xs ∧ J xs W') ∨ (∃ pre, Jx pre W'))
theorem Gave.all {α : Type} {fin : List α → Prop} {J Jx : List α → World → Prop} {v : Value} {W' : World} {xs : List α} (hf : fin xs) (h : J xs W') : Gave fin J Jx (.returned v) W' := ⟨⟨v, rfl⟩, .inl ⟨xs, hf, h⟩⟩
theorem Gave.part {α : Type} {fin : List α → Prop} {J Jx : List α → World → Prop} {v : Value} {W' : World} {pre : List α} (h : Jx pre W') : Gave fin J Jx (.returned v) W' := ⟨⟨v, rfl⟩, .inr ⟨pre, h⟩⟩

/-- THE CONTRACT OF AN ITERATOR (function gf over what it has captured, lb): it hands out x behind pre only where adm lets it; where no round says 'no more' all that has come is as fin says. R: what it reads of the world, which the caller's invariant must keep. -/
def Gives {α : Type} (P : Program) (gf : Nat) (lb : Array Value) (enc : α → Array Value) (adm : List α → α → Prop) (fin : List α → Prop) (R : World → Prop) : Prop :=
  ∀ (l : Nat) (J Jx : List α → World → Prop) (W : World) (X : List Nat), (∀ k ∈ X, k < W.heap.size) → Abide W.heap.size J → Abide W.heap.size Jx → (∀ pre W', J pre W' → R W') →
    (∀ pre x W', J pre W' → adm pre x → Yields P l (enc x) W' (fun e W'' => Answers J Jx (pre ++ [x]) e W'' ∧ BookX X W' W'')) → J [] W →
    Calls P gf (#[.func (.yield l) #[] #[]] ++ lb) W (Gave fin J Jx)

/-- HOW THE BODY OF A ROUND MAY BE LEFT (X: records of loops around that it may turn). -/
def bodyEnd (X : List Nat) (Pn : World → Prop) (Px : Code → World → Prop) (W : World) : Exit → Act → World → Prop
  | .normal, _, W' => BookX X W W' ∧ Pn W'
  | .ret, _, W' => BookX X W W' ∧ Px .ret W'
  | .exit id, _, W' => BookX X W W' ∧ Px (.exit id) W'
  | .goto t, _, W' => BookX X W W' ∧ Px (.goto t) W'
  | .panic _, _, _ => False
  | .outgrown, _, _ => False

/-- ONE ROUND of record l, out of the walks of the assignment and of the body. mk: the record, by its state and its pending jump. Mid: what holds when yield is called; Pn, Px: what holds behind the round. -/
theorem round_of {l D n : Nat} {X : List Nat} (hX : l ∉ X) {mk : LoopState → Option Code → Loop} {fnr : FuncId} {tmps : Array Value} {ps : Array Tmp} {assign body : Code}
    (hmk : ∀ s p, mk s p = { state := s, pending := p, fn := fnr, tmps := tmps, params := ps, assign := assign, body := body, defers := D })
    (B : Nat) (hBl : B ≤ l) (Mid Pn : World → Prop) (Px : Code → World → Prop) (hMid : ∀ A C, Mid A → Calm B A C → Mid C) (hPn : ∀ A C, Pn A → Calm B A C → Pn C) (hPx : ∀ c A C, Px c A → Calm B A C → Px c C)
    (vals : Array Value) (hps : vals.size = ps.size) (W : World) (hl : W.heap[l]? = some (.loop (mk .ready none)))
    (Ax : Act → World → Prop)
    (hassign : ∀ (K : Act → World → Prop), (∀ a' W', BookX [] W W' → Mid W' → Ax a' W' → K a' W') →
      assign.wpIn (Fence.wide.inRound l) n P (Exit.then K (fun _ _ _ => False)) { tmps := (ps.zip vals).foldl (fun t (p, v) => t.setIfInBounds p v) tmps, defers := [] } W)
    (hAx : ∀ a' W₁ W₂, Ax a' W₁ → Calm B W₁ W₂ → Ax a' W₂)
    (hbody : ∀ (a' : Act) (W' : World), Mid W' → Ax a' W' → (∃ r, W'.heap[l]? = some (.loop r)) → body.wpIn (Fence.wide.inRound l) n P (bodyEnd X Pn Px W') a' W') :
    YieldAt Fence.wide n P l vals W fun e W' =>
      BookX (l :: X) W W' ∧
      ((e = .returned (.bool true) ∧ Pn W' ∧ W'.heap[l]? = some (.loop (mk .ready none))) ∨
       (e = .returned (.bool false) ∧ ∃ c, Px c W' ∧ W'.heap[l]? = some (.loop (mk .done (some c))))) := by
  have hy := run_yield (P := P) (args := vals) hl (by rw [hmk]; exact hps)
  rw [hmk] at hy
  refine ⟨fnr, _, assign, body, hy, roundIn_of_wpIn (F := Fence.wide) trivial (hassign _ ?_)⟩
  clear hy
  intro a' Wa hka hia hax
  have hla := hka _ _ hl rfl (by simp)
  have hlt := heap_lt hla
  refine ⟨_, run_beginRound hla (by rw [hmk]), ?_⟩
  have hl2 : (Wa.putObj l (.loop { mk .ready none with state := .busy })).heap[l]? = some (.loop { mk .ready none with state := .busy }) := World.putObj_heap_same hlt
  have hc2 : Calm B Wa (Wa.putObj l (.loop { mk .ready none with state := .busy })) := Calm.putObj _ hla rfl hBl
  have hk2 : BookX (l :: X) W (Wa.putObj l (.loop { mk .ready none with state := .busy })) := fun k o hk ho hne => (World.putObj_heap_other (fun e => hne (by simp [e]))).trans (hka k o hk ho (by simp))
  refine wpIn_mono (hbody a' _ (hMid _ _ hia hc2) (hAx _ _ _ hax hc2) ⟨_, hl2⟩) ?_
  have fin : ∀ (jump : Option Code) (W3 : World), BookX X (Wa.putObj l (.loop { mk .ready none with state := .busy })) W3 →
      (Instr.endRound l jump).run P W3 = .ok (.bool jump.isNone) (W3.putObj l (.loop (mk (if jump.isNone then .ready else .done) jump))) ∧
      Calm B W3 (W3.putObj l (.loop (mk (if jump.isNone then .ready else .done) jump))) ∧
      (W3.putObj l (.loop (mk (if jump.isNone then .ready else .done) jump))).heap[l]? = some (.loop (mk (if jump.isNone then .ready else .done) jump)) ∧
      BookX (l :: X) W (W3.putObj l (.loop (mk (if jump.isNone then .ready else .done) jump))) := fun jump W3 hk3 => by
    have hl3 := hk3 _ _ hl2 rfl hX
    have hr := run_endRound (P := P) jump hl3
    rw [hmk] at hr
    rw [hmk]
    exact ⟨hr, Calm.putObj _ hl3 rfl hBl, World.putObj_heap_same (heap_lt hl3), fun k o hk ho hne => (World.putObj_heap_other (fun e => hne (by simp [e]))).trans (hk3 k o (hk2 k o hk ho hne) ho (fun hm => hne (by simp [hm])))⟩
  rintro e a3 W3 hp
  cases e with
  | normal =>
    obtain ⟨hk3, hi3⟩ := hp
    obtain ⟨hr, hc, hl4, hk4⟩ := fin none W3 hk3
    exact ⟨_, _, hr, hk4, .inl ⟨rfl, hPn _ _ hi3 hc, hl4⟩⟩
  | ret =>
    obtain ⟨hk3, hi3⟩ := hp
    obtain ⟨hr, hc, hl4, hk4⟩ := fin (some .ret) W3 hk3
    exact ⟨_, _, hr, hk4, .inr ⟨rfl, .ret, hPx _ _ _ hi3 hc, hl4⟩⟩
  | exit id =>
    obtain ⟨hk3, hi3⟩ := hp
    obtain ⟨hr, hc, hl4, hk4⟩ := fin (some (.exit id)) W3 hk3
    exact ⟨_, _, hr, hk4, .inr ⟨rfl, .exit id, hPx _ _ _ hi3 hc, hl4⟩⟩
  | goto t =>
    obtain ⟨hk3, hi3⟩ := hp
    obtain ⟨hr, hc, hl4, hk4⟩ := fin (some (.goto t)) W3 hk3
    exact ⟨_, _, hr, hk4, .inr ⟨rfl, .goto t, hPx _ _ _ hi3 hc, hl4⟩⟩
  | panic ch => exact hp.elim
  | outgrown => exact hp.elim

/-- The record of a loop, by its state and its pending jump. -/
def mkLoop (fnr : FuncId) (tmps : Array Value) (ps : Array Tmp) (assign body : Code) (D : Nat) (s : LoopState) (p : Option Code) : Loop :=
  { state := s, pending := p, fn := fnr, tmps := tmps, params := ps, assign := assign, body := body, defers := D }

def markAt (D : Nat) : Deferred := { target := .collected D, args := #[] }

/-- **'for x := range g { .. }' IN A FUNCTION's OWN FRAME.** σ: the states in which yield is called (Mid), what then holds behind the round (Pn), or behind a round that has left (Px). -/
theorem range_outerS {σ : Type} {n : Nat} (X : List Nat) {g : Operand} {ps : Array Tmp} {assign body : Code} {Q : Exit → Act → World → Prop} {a : Act} {w : World}
    {gf : Nat} {lb : Array Value} (hg : a.eval g = .func (.func gf) #[] lb) (eg : Enters P gf) (hX : ∀ k ∈ X, k < w.heap.size)
    (enc : σ → Array Value) (Mid Pn : σ → World → Prop) (Px : Code → σ → World → Prop) (St Dn : World → Prop)
    (hMid : Abide w.heap.size Mid) (hPn : Abide w.heap.size Pn) (hPx : ∀ c, Abide w.heap.size (Px c)) (hSt : ∀ A C, St A → Calm w.heap.size A C → St C) (hDn : ∀ A C, Dn A → Calm w.heap.size A C → Dn C) (h0 : St w)
    (hgive : ∀ (l : Nat) (rc : World → Prop) (Jx : σ → World → Prop) (W1 : World) (X1 : List Nat), w.heap.size ≤ W1.heap.size → (∀ k ∈ X1, k < W1.heap.size) → (∀ A C, rc A → Calm W1.heap.size A C → rc C) → (∀ A C, rc A → BookX [] A C → rc C) → Abide W1.heap.size Jx →
      (∀ s W', Mid s W' → rc W' → Yields P l (enc s) W' (fun e W'' => ((e = .returned (.bool true) ∧ Pn s W'' ∧ rc W'') ∨ (e = .returned (.bool false) ∧ Jx s W'')) ∧ BookX X1 W' W'')) → St W1 → rc W1 →
      Calls P gf (#[.func (.yield l) #[] #[]] ++ lb) W1 (fun e W' => (∃ v, e = .returned v) ∧ ((Dn W' ∧ rc W') ∨ ∃ s, Jx s W')))
    (hps : ∀ s, (enc s).size = ps.size)
    (Ax : σ → Act → World → Prop) (hAx : ∀ x a' W₁ W₂, Ax x a' W₁ → Calm w.heap.size W₁ W₂ → Ax x a' W₂)
    (hassign : ∀ (l : Nat) (s : σ) (W : World) (K : Act → World → Prop), Mid s W → (∀ a' W', BookX [] W W' → Mid s W' → Ax s a' W' → K a' W') →
      assign.wpIn (Fence.wide.inRound l) 0 P (Exit.then K (fun _ _ _ => False)) { tmps := (ps.zip (enc s)).foldl (fun t (p, v) => t.setIfInBounds p v) a.tmps, defers := [] } W)
    (hbody : ∀ (l : Nat) (s : σ) (a' : Act) (W : World), w.heap.size ≤ l → (∃ r, W.heap[l]? = some (.loop r)) → Mid s W → Ax s a' W →
      body.wpIn (Fence.wide.inRound l) 0 P (bodyEnd X (Pn s) (fun c => Px c s) W) a' W)
    (hdone : ∀ (D : Nat) (W : World), w.heap.size ≤ D → Dn W → W.heap[D]? = some (.deferred (some [])) → Q .normal { a with defers := markAt D :: a.defers } W)
    (hstop : ∀ (D : Nat) (c : Code) (s : σ) (W : World), w.heap.size ≤ D → Px c s W → W.heap[D]? = some (.deferred (some [])) → c.wpIn Fence.wide n P Q { a with defers := markAt D :: a.defers } W) :
    (Code.rangeFunc g ps assign body).wpIn Fence.wide n P Q a w := by
  refine wpIn_rangeFunc ?_
  intro fn hfn
  obtain ⟨mk, hmk⟩ : ∃ mk : LoopState → Option Code → Loop, mk = mkLoop fn a.tmps ps assign body w.heap.size := ⟨_, rfl⟩
  have hmk' : ∀ s p, mk s p = { state := s, pending := p, fn := fn, tmps := a.tmps, params := ps, assign := assign, body := body, defers := w.heap.size } := fun s p => by rw [hmk]; rfl
  obtain ⟨W1, hW1⟩ : ∃ W1, (w.alloc (.deferred (some []))).alloc (.loop (mk .ready none)) = W1 := ⟨_, rfl⟩
  have hc1 : Calm w.heap.size w W1 := by rw [← hW1]; exact (Calm.alloc _ _ _).trans (Calm.alloc _ _ _)
  have hL1 : W1.heap[w.heap.size + 1]? = some (.loop (mk .ready none)) := by
    rw [← hW1]; have := World.alloc_heap_new (w.alloc (.deferred (some []))) (.loop (mk .ready none)); rwa [World.size_alloc] at this
  have hK1 : W1.heap[w.heap.size]? = some (.deferred (some [])) := by
    rw [← hW1]; exact (Below.heap_alloc _ _ _ (by simp)).trans (World.alloc_heap_new w _)
  have hs1 : W1.heap.size = w.heap.size + 2 := by rw [← hW1]; simp
  refine ⟨w.heap.size + 1, [markAt w.heap.size], W1, { target := .fn (.func gf) lb, args := #[.func (.yield (w.heap.size + 1)) #[] #[]] }, W1, gf,
    #[.func (.yield (w.heap.size + 1)) #[] #[]] ++ lb, W1, ?_, ?_, ?_, ?_, ?_, ?_⟩
  · rw [← hW1, hmk']; exact run_enterLoop_outer _ _ _ _ _
  · simp only [resolve, hg]
    simp [go_sem]
  · intro f' hf'; trivial
  · simp [invoke, go_sem, eg _ _]
  · intro h; simp at h
  · refine (inW (hgive (w.heap.size + 1)
      (fun W => W.heap[w.heap.size + 1]? = some (.loop (mk .ready none)) ∧ W.heap[w.heap.size]? = some (.deferred (some [])))
      (fun s W => ∃ c, Px c s W ∧ W.heap[w.heap.size + 1]? = some (.loop (mk .done (some c))) ∧ W.heap[w.heap.size]? = some (.deferred (some [])))
      W1 ((w.heap.size + 1) :: X) (by omega) (fun k hk => by rcases List.mem_cons.1 hk with rfl | hk; omega; have := hX k hk; omega)
      (fun A C h hc => ⟨hc.keep _ _ h.1 (.inr (by omega)), hc.keep _ _ h.2 (.inr (by omega))⟩) (fun A C h hb => ⟨hb _ _ h.1 rfl (by simp), hb _ _ h.2 rfl (by simp)⟩)
      (fun s A B hs hc => by
        obtain ⟨c, h1, h2⟩ := hs
        exact ⟨c, hPx c s A B h1 (hc.mono (by omega)), hc.keep _ _ h2.1 (.inr (by omega)), hc.keep _ _ h2.2 (.inr (by omega))⟩)
      ?_ (hSt _ _ h0 hc1) ⟨hL1, hK1⟩)).mono ?_
    · rintro s W hi hk
      refine (round_of (P := P) (l := w.heap.size + 1) (D := w.heap.size) (X := X) (fun hm => by have := hX _ hm; omega) hmk' w.heap.size (by omega) (Mid s) (Pn s) (fun c => Px c s) (hMid s) (hPn s) (fun c => hPx c s) (enc s) (hps s) W hk.1 (Ax s)
        (fun K hK => hassign _ s W K hi hK) (hAx s) (fun a' W' hi' hax hr => hbody _ s a' W' (by omega) hr hi' hax)).mono ?_
      rintro e W' ⟨hbk, hh⟩
      have hk' := hbk _ _ hk.2 rfl (fun hm => by rcases List.mem_cons.1 hm with h | h; omega; have := hX _ h; omega)
      rcases hh with ⟨rfl, hi', hl'⟩ | ⟨rfl, c, hi', hl'⟩
      · exact ⟨.inl ⟨rfl, hi', hl', hk'⟩, hbk⟩
      · exact ⟨.inr ⟨rfl, c, hi', hl', hk'⟩, hbk⟩
    · rintro e W2 ⟨⟨v, rfl⟩, (⟨hi, hl, hk⟩ | ⟨s, c, hi, hl, hk⟩)⟩
      · exact ⟨none, _, by have := run_endLoop (P := P) hl (by rw [hmk']; simp); rw [hmk'] at this; exact this,
          hdone _ _ (Nat.le_refl _) (hDn _ _ hi (Calm.putObj _ hl rfl (by omega))) ((World.putObj_heap_other (by omega)).trans hk)⟩
      · exact ⟨some c, _, by have := run_endLoop (P := P) hl (by rw [hmk']; simp); rw [hmk'] at this; exact this,
          hstop _ c s _ (Nat.le_refl _) (hPx c _ _ _ hi (Calm.putObj _ hl rfl (by omega))) ((World.putObj_heap_other (by omega)).trans hk)⟩

/-- THE SAME, OUT OF AN ITERATOR's CONTRACT 'Gives'. -/
theorem range_outer {α : Type} {n : Nat} (X : List Nat) {g : Operand} {ps : Array Tmp} {assign body : Code} {Q : Exit → Act → World → Prop} {a : Act} {w : World}
    {gf : Nat} {lb : Array Value} {enc : α → Array Value} {adm : List α → α → Prop} {fin : List α → Prop} {Rd : World → Prop}
    (hg : a.eval g = .func (.func gf) #[] lb) (eg : Enters P gf) (hgive : Gives P gf lb enc adm fin Rd) (hps : ∀ x, (enc x).size = ps.size) (hX : ∀ k ∈ X, k < w.heap.size)
    (I : List α → World → Prop) (Ix : Code → List α → World → Prop) (hI : Abide w.heap.size I) (hIx : ∀ c, Abide w.heap.size (Ix c)) (hRd : ∀ pre W, I pre W → Rd W) (h0 : I [] w)
    (Ax : α → Act → World → Prop) (hAx : ∀ x a' W₁ W₂, Ax x a' W₁ → Calm w.heap.size W₁ W₂ → Ax x a' W₂)
    (hassign : ∀ (l : Nat) (pre : List α) (x : α) (W : World) (K : Act → World → Prop), I pre W → adm pre x → (∀ a' W', BookX [] W W' → I pre W' → Ax x a' W' → K a' W') →
      assign.wpIn (Fence.wide.inRound l) 0 P (Exit.then K (fun _ _ _ => False)) { tmps := (ps.zip (enc x)).foldl (fun t (p, v) => t.setIfInBounds p v) a.tmps, defers := [] } W)
    (hbody : ∀ (l : Nat) (pre : List α) (x : α) (a' : Act) (W : World), w.heap.size ≤ l → (∃ r, W.heap[l]? = some (.loop r)) → I pre W → adm pre x → Ax x a' W →
      body.wpIn (Fence.wide.inRound l) 0 P (bodyEnd X (I (pre ++ [x])) (fun c => Ix c (pre ++ [x])) W) a' W)
    (hdone : ∀ (D : Nat) (xs : List α) (W : World), w.heap.size ≤ D → fin xs → I xs W → W.heap[D]? = some (.deferred (some [])) → Q .normal { a with defers := markAt D :: a.defers } W)
    (hstop : ∀ (D : Nat) (c : Code) (pre : List α) (W : World), w.heap.size ≤ D → Ix c pre W → W.heap[D]? = some (.deferred (some [])) → c.wpIn Fence.wide n P Q { a with defers := markAt D :: a.defers } W) :
    (Code.rangeFunc g ps assign body).wpIn Fence.wide n P Q a w := by
  refine range_outerS (σ := List α × α) X hg eg hX (fun s => enc s.2) (fun s W => I s.1 W ∧ adm s.1 s.2) (fun s W => I (s.1 ++ [s.2]) W) (fun c s W => Ix c (s.1 ++ [s.2]) W) (fun W => I [] W) (fun W => ∃ xs, fin xs ∧ I xs W)
    (fun s A B h hc => ⟨hI _ _ _ h.1 hc, h.2⟩) (fun s A B h hc => hI _ _ _ h hc) (fun c s A B h hc => hIx c _ _ _ h hc) (fun A C h hc => hI _ _ _ h hc) (fun A C ⟨xs, hf, h⟩ hc => ⟨xs, hf, hI _ _ _ h hc⟩) h0 ?_ (fun s => hps s.2)
    (fun s => Ax s.2) (fun s => hAx s.2) (fun l s W K h hK => hassign l s.1 s.2 W K h.1 h.2 (fun a' W' hb hi hax => hK a' W' hb ⟨hi, h.2⟩ hax)) (fun l s a' W hl hr h hax => hbody l s.1 s.2 a' W hl hr h.1 h.2 hax)
    (fun D W hD ⟨xs, hf, hi⟩ hd => hdone D xs W hD hf hi hd) (fun D c s W hD h hd => hstop D c _ W hD h hd)
  intro l rc Jx W1 X1 hsz hX1 hrc _ hJx hY hst hr1
  refine (hgive l (fun pre W => I pre W ∧ rc W) (fun pre W => ∃ s, Jx s W) W1 X1 hX1 (fun s A B h hc => ⟨hI _ _ _ h.1 (hc.mono hsz), hrc _ _ h.2 hc⟩) (fun s A B ⟨t, h⟩ hc => ⟨t, hJx _ _ _ h hc⟩) (fun pre W' h => hRd _ _ h.1) ?_ ⟨hst, hr1⟩).mono ?_
  · intro pre x W' h ha
    refine (hY (pre, x) W' ⟨h.1, ha⟩ h.2).mono ?_
    rintro e W'' ⟨h1, h2⟩
    refine ⟨?_, h2⟩
    rcases h1 with ⟨rfl, h1, h3⟩ | ⟨rfl, h1⟩
    · exact .inl ⟨rfl, h1, h3⟩
    · exact .inr ⟨rfl, _, h1⟩
  · rintro e W' ⟨hv, (⟨xs, hf, hi, hr⟩ | ⟨pre, s, hj⟩)⟩
    · exact ⟨hv, .inl ⟨⟨xs, hf, hi⟩, hr⟩⟩
    · exact ⟨hv, .inr ⟨s, hj⟩⟩

/-- **'for x := range g { .. }' WITHIN A ROUND OF LOOP l₀.** σ: the states in which yield is called (Mid), what then holds behind the round (Pn), or behind a round that has left (Px). -/
theorem range_innerS {σ : Type} {n : Nat} (X : List Nat) {g : Operand} {ps : Array Tmp} {assign body : Code} {Q : Exit → Act → World → Prop} {a : Act} {w : World} {l₀ : Nat} {r₀ : Loop} (hl₀ : w.heap[l₀]? = some (.loop r₀))
    {gf : Nat} {lb : Array Value} (hg : a.eval g = .func (.func gf) #[] lb) (eg : Enters P gf) (hX : ∀ k ∈ X, k < w.heap.size)
    (enc : σ → Array Value) (Mid Pn : σ → World → Prop) (Px : Code → σ → World → Prop) (St Dn : World → Prop)
    (hMid : Abide w.heap.size Mid) (hPn : Abide w.heap.size Pn) (hPx : ∀ c, Abide w.heap.size (Px c)) (hSt : ∀ A C, St A → Calm w.heap.size A C → St C) (hDn : ∀ A C, Dn A → Calm w.heap.size A C → Dn C) (h0 : St w)
    (hgive : ∀ (l : Nat) (rc : World → Prop) (Jx : σ → World → Prop) (W1 : World) (X1 : List Nat), w.heap.size ≤ W1.heap.size → (∀ k ∈ X1, k < W1.heap.size) → (∀ A C, rc A → Calm W1.heap.size A C → rc C) → (∀ A C, rc A → BookX [] A C → rc C) → Abide W1.heap.size Jx →
      (∀ s W', Mid s W' → rc W' → Yields P l (enc s) W' (fun e W'' => ((e = .returned (.bool true) ∧ Pn s W'' ∧ rc W'') ∨ (e = .returned (.bool false) ∧ Jx s W'')) ∧ BookX X1 W' W'')) → St W1 → rc W1 →
      Calls P gf (#[.func (.yield l) #[] #[]] ++ lb) W1 (fun e W' => (∃ v, e = .returned v) ∧ ((Dn W' ∧ rc W') ∨ ∃ s, Jx s W')))
    (hps : ∀ s, (enc s).size = ps.size)
    (Ax : σ → Act → World → Prop) (hAx : ∀ x a' W₁ W₂, Ax x a' W₁ → Calm w.heap.size W₁ W₂ → Ax x a' W₂)
    (hassign : ∀ (l : Nat) (s : σ) (W : World) (K : Act → World → Prop), Mid s W → (∀ a' W', BookX [] W W' → Mid s W' → Ax s a' W' → K a' W') →
      assign.wpIn (Fence.wide.inRound l) 0 P (Exit.then K (fun _ _ _ => False)) { tmps := (ps.zip (enc s)).foldl (fun t (p, v) => t.setIfInBounds p v) a.tmps, defers := [] } W)
    (hbody : ∀ (l : Nat) (s : σ) (a' : Act) (W : World), w.heap.size ≤ l → (∃ r, W.heap[l]? = some (.loop r)) → Mid s W → Ax s a' W →
      body.wpIn (Fence.wide.inRound l) 0 P (bodyEnd X (Pn s) (fun c => Px c s) W) a' W)
    (hdone : ∀ (W : World), Dn W → Q .normal a W)
    (hstop : ∀ (c : Code) (s : σ) (W : World), Px c s W → c.wpIn (Fence.wide.inRound l₀) n P Q a W) :
    (Code.rangeFunc g ps assign body).wpIn (Fence.wide.inRound l₀) n P Q a w := by
  refine wpIn_rangeFunc ?_
  intro fn hfn
  obtain ⟨mk, hmk⟩ : ∃ mk : LoopState → Option Code → Loop, mk = mkLoop fn a.tmps ps assign body r₀.defers := ⟨_, rfl⟩
  have hmk' : ∀ s p, mk s p = { state := s, pending := p, fn := fn, tmps := a.tmps, params := ps, assign := assign, body := body, defers := r₀.defers } := fun s p => by rw [hmk]; rfl
  obtain ⟨W1, hW1⟩ : ∃ W1, w.alloc (.loop (mk .ready none)) = W1 := ⟨_, rfl⟩
  have hc1 : Calm w.heap.size w W1 := by rw [← hW1]; exact Calm.alloc _ _ _
  have hL1 : W1.heap[w.heap.size]? = some (.loop (mk .ready none)) := by rw [← hW1]; exact World.alloc_heap_new w _
  have hs1 : W1.heap.size = w.heap.size + 1 := by rw [← hW1]; simp
  refine ⟨w.heap.size, [], W1, { target := .fn (.func gf) lb, args := #[.func (.yield w.heap.size) #[] #[]] }, W1, gf,
    #[.func (.yield w.heap.size) #[] #[]] ++ lb, W1, ?_, ?_, ?_, ?_, ?_, ?_⟩
  · rw [← hW1, hmk']; exact run_enterLoop_inner hl₀ _ _ _ _ _
  · simp only [resolve, hg]
    simp [go_sem]
  · intro f' hf'; trivial
  · simp [invoke, go_sem, eg _ _]
  · intro h; simp at h
  · refine (inR (l := l₀) (hgive (w.heap.size)
      (fun W => W.heap[w.heap.size]? = some (.loop (mk .ready none)))
      (fun s W => ∃ c, Px c s W ∧ W.heap[w.heap.size]? = some (.loop (mk .done (some c))))
      W1 ((w.heap.size) :: X) (by omega) (fun k hk => by rcases List.mem_cons.1 hk with rfl | hk; omega; have := hX k hk; omega)
      (fun A C h hc => hc.keep _ _ h (.inr (by omega))) (fun A C h hb => hb _ _ h rfl (by simp))
      (fun s A B hs hc => by
        obtain ⟨c, h1, h2⟩ := hs
        exact ⟨c, hPx c s A B h1 (hc.mono (by omega)), hc.keep _ _ h2 (.inr (by omega))⟩)
      ?_ (hSt _ _ h0 hc1) hL1)).mono ?_
    · rintro s W hi hk
      refine (round_of (P := P) (l := w.heap.size) (D := r₀.defers) (X := X) (fun hm => by have := hX _ hm; omega) hmk' w.heap.size (by omega) (Mid s) (Pn s) (fun c => Px c s) (hMid s) (hPn s) (fun c => hPx c s) (enc s) (hps s) W hk (Ax s)
        (fun K hK => hassign _ s W K hi hK) (hAx s) (fun a' W' hi' hax hr => hbody _ s a' W' (by omega) hr hi' hax)).mono ?_
      rintro e W' ⟨hbk, hh⟩
      rcases hh with ⟨rfl, hi', hl'⟩ | ⟨rfl, c, hi', hl'⟩
      · exact ⟨.inl ⟨rfl, hi', hl'⟩, hbk⟩
      · exact ⟨.inr ⟨rfl, c, hi', hl'⟩, hbk⟩
    · rintro e W2 ⟨⟨v, rfl⟩, (⟨hi, hl⟩ | ⟨s, c, hi, hl⟩)⟩
      · exact ⟨none, _, by have := run_endLoop (P := P) hl (by rw [hmk']; simp); rw [hmk'] at this; exact this, hdone _ (hDn _ _ hi (Calm.putObj _ hl rfl (by omega)))⟩
      · exact ⟨some c, _, by have := run_endLoop (P := P) hl (by rw [hmk']; simp); rw [hmk'] at this; exact this, hstop c s _ (hPx c _ _ _ hi (Calm.putObj _ hl rfl (by omega)))⟩

/-- THE SAME, OUT OF AN ITERATOR's CONTRACT 'Gives'. -/
theorem range_inner {α : Type} {n : Nat} (X : List Nat) {g : Operand} {ps : Array Tmp} {assign body : Code} {Q : Exit → Act → World → Prop} {a : Act} {w : World} {l₀ : Nat} {r₀ : Loop} (hl₀ : w.heap[l₀]? = some (.loop r₀))
    {gf : Nat} {lb : Array Value} {enc : α → Array Value} {adm : List α → α → Prop} {fin : List α → Prop} {Rd : World → Prop}
    (hg : a.eval g = .func (.func gf) #[] lb) (eg : Enters P gf) (hgive : Gives P gf lb enc adm fin Rd) (hps : ∀ x, (enc x).size = ps.size) (hX : ∀ k ∈ X, k < w.heap.size)
    (I : List α → World → Prop) (Ix : Code → List α → World → Prop) (hI : Abide w.heap.size I) (hIx : ∀ c, Abide w.heap.size (Ix c)) (hRd : ∀ pre W, I pre W → Rd W) (h0 : I [] w)
    (Ax : α → Act → World → Prop) (hAx : ∀ x a' W₁ W₂, Ax x a' W₁ → Calm w.heap.size W₁ W₂ → Ax x a' W₂)
    (hassign : ∀ (l : Nat) (pre : List α) (x : α) (W : World) (K : Act → World → Prop), I pre W → adm pre x → (∀ a' W', BookX [] W W' → I pre W' → Ax x a' W' → K a' W') →
      assign.wpIn (Fence.wide.inRound l) 0 P (Exit.then K (fun _ _ _ => False)) { tmps := (ps.zip (enc x)).foldl (fun t (p, v) => t.setIfInBounds p v) a.tmps, defers := [] } W)
    (hbody : ∀ (l : Nat) (pre : List α) (x : α) (a' : Act) (W : World), w.heap.size ≤ l → (∃ r, W.heap[l]? = some (.loop r)) → I pre W → adm pre x → Ax x a' W →
      body.wpIn (Fence.wide.inRound l) 0 P (bodyEnd X (I (pre ++ [x])) (fun c => Ix c (pre ++ [x])) W) a' W)
    (hdone : ∀ (xs : List α) (W : World), fin xs → I xs W → Q .normal a W)
    (hstop : ∀ (c : Code) (pre : List α) (W : World), Ix c pre W → c.wpIn (Fence.wide.inRound l₀) n P Q a W) :
    (Code.rangeFunc g ps assign body).wpIn (Fence.wide.inRound l₀) n P Q a w := by
  refine range_innerS (σ := List α × α) X hl₀ hg eg hX (fun s => enc s.2) (fun s W => I s.1 W ∧ adm s.1 s.2) (fun s W => I (s.1 ++ [s.2]) W) (fun c s W => Ix c (s.1 ++ [s.2]) W) (fun W => I [] W) (fun W => ∃ xs, fin xs ∧ I xs W)
    (fun s A B h hc => ⟨hI _ _ _ h.1 hc, h.2⟩) (fun s A B h hc => hI _ _ _ h hc) (fun c s A B h hc => hIx c _ _ _ h hc) (fun A C h hc => hI _ _ _ h hc) (fun A C ⟨xs, hf, h⟩ hc => ⟨xs, hf, hI _ _ _ h hc⟩) h0 ?_ (fun s => hps s.2)
    (fun s => Ax s.2) (fun s => hAx s.2) (fun l s W K h hK => hassign l s.1 s.2 W K h.1 h.2 (fun a' W' hb hi hax => hK a' W' hb ⟨hi, h.2⟩ hax)) (fun l s a' W hl hr h hax => hbody l s.1 s.2 a' W hl hr h.1 h.2 hax)
    (fun W ⟨xs, hf, hi⟩ => hdone xs W hf hi) (fun c s W h => hstop c _ W h)
  intro l rc Jx W1 X1 hsz hX1 hrc _ hJx hY hst hr1
  refine (hgive l (fun pre W => I pre W ∧ rc W) (fun pre W => ∃ s, Jx s W) W1 X1 hX1 (fun s A B h hc => ⟨hI _ _ _ h.1 (hc.mono hsz), hrc _ _ h.2 hc⟩) (fun s A B ⟨t, h⟩ hc => ⟨t, hJx _ _ _ h hc⟩) (fun pre W' h => hRd _ _ h.1) ?_ ⟨hst, hr1⟩).mono ?_
  · intro pre x W' h ha
    refine (hY (pre, x) W' ⟨h.1, ha⟩ h.2).mono ?_
    rintro e W'' ⟨h1, h2⟩
    refine ⟨?_, h2⟩
    rcases h1 with ⟨rfl, h1, h3⟩ | ⟨rfl, h1⟩
    · exact .inl ⟨rfl, h1, h3⟩
    · exact .inr ⟨rfl, _, h1⟩
  · rintro e W' ⟨hv, (⟨xs, hf, hi, hr⟩ | ⟨pre, s, hj⟩)⟩
    · exact ⟨hv, .inl ⟨⟨xs, hf, hi⟩, hr⟩⟩
    · exact ⟨hv, .inr ⟨s, hj⟩⟩

/-- THE WAY OUT OF A FUNCTION WITH MARKS AMONG ITS DEFERRED CALLS. -/
theorem leaves_marks {n : Nat} {fn : Func} {tmps : Array Value} {R : Ending → World → Prop} {v : Value} {B : Nat} (hres : ∀ w, (results fn tmps).run P w = .ok v w) :
    ∀ (Ds : List Nat) (w : World), (∀ D ∈ Ds, B ≤ D ∧ w.heap[D]? = some (.deferred (some []))) → Ds.Nodup → (∀ w', Calm B w w' → R (.returned v) w') →
      LeavesInM Fence.wide n P fn tmps R (Ds.map markAt) .returning w
  | [], w, _, _, hR => ⟨v, hres w, hR w (Calm.refl _ _)⟩
  | D :: Ds, w, hD, hn, hR => by
    obtain ⟨hB, hd⟩ := hD D (by simp)
    rw [List.nodup_cons] at hn
    refine ⟨by simp, .inl ⟨D, _, rfl, run_takeDeferred hd, ?_⟩⟩
    have hc : Calm B w (w.putObj D (.deferred none)) := Calm.putObj _ hd rfl hB
    exact leaves_marks hres Ds _ (fun D' h' => ⟨(hD D' (by simp [h'])).1, (World.putObj_heap_other (fun e => hn.1 (by rw [← e]; exact h'))).trans (hD D' (by simp [h'])).2⟩) hn.2 (fun w' hw => hR w' (hc.trans hw))

end
end Go.Proofs.Ytbainekfbonbjaa
