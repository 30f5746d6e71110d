/- Ranges over a function whose left sides are plain variables of the frame (one, or two): the laws of YtbainekfbonbjaaBase with the assignment walked once and for all. -/
import Derived.Test.YtbainekfbonbjaaBase
import Derived.TacticsInMore
namespace Go.Proofs.Ytbainekfbonbjaa
open Go.RowKit Go.Shelf
set_option linter.unusedVariables false
variable {P : Program}

theorem heap_alloc_get (w : World) (o : Obj) (k : Nat) : (w.alloc o).heap[k]? = if k = w.heap.size then some o else w.heap[k]? := by
  show (w.heap.push o)[k]? = _
  rw [Array.getElem?_push]

theorem assign_walk {F : Fence} {n : Nat} {id : Nat} {ops : Array Oper} {d p : Nat} {t : TypeId} {pos : String} {after : Array Edge} {Q : Exit → Act → World → Prop} {a : Act} {w : World}
    (hops : ops = #[{ dst := some d, op := .assign (.tmp p), type := t, pos := pos, after := after, guard := none }])
    (h : Q .normal { a with tmps := a.tmps.setIfInBounds d (a.tmps.getD p undef) } w) : (Code.region id ops false).wpIn F n P Q a w := by
  subst hops
  refine wpIn_region_lit (l := [_]) ?_
  refine wpListIn_plain rfl fun K hK => ?_
  have hr : (Oper.semAt F.round a.eval { dst := some d, op := .assign (.tmp p), type := t, pos := pos, after := after, guard := none }).run P w = .ok (.value (a.tmps.getD p undef)) w := by
    have e : Oper.semAt F.round a.eval { dst := some d, op := .assign (.tmp p), type := t, pos := pos, after := after, guard := none } = execOp a.eval { dst := some d, op := .assign (.tmp p), type := t, pos := pos, after := after, guard := none } := by
      cases F.round with
      | none => rfl
      | some l => exact Oper.semAt_some l _ _ (by intro c h; cases h)
    rw [e]
    simp [execOp, Act.eval]
  refine ⟨fun f hf => ?_, ?_⟩
  · simp [Oper.about] at hf
  · rw [hr]
    exact hK _ _ (wpListIn_nil h)

/-- The frame in which a round's body begins: slot p (yield's argument) and slot d (the loop's variable) bear v. -/
def frame1 (a : Act) (p d : Nat) (v : Value) : Act := { tmps := (a.tmps.setIfInBounds p v).setIfInBounds d ((a.tmps.setIfInBounds p v).getD p undef), defers := [] }

theorem range_outer1S {σ : Type} {n : Nat} (X : List Nat) {g : Operand} {ps : Array Tmp} {id : Nat} {ops : Array Oper} {d p : Nat} {t : TypeId} {pos : String} {after : Array Edge} {body : Code} {Q : Exit → Act → World → Prop} {a : Act} {w : World}
    {gf : Nat} {lb : Array Value} (hg : a.eval g = .func (.func gf) #[] lb) (eg : Enters P gf) (hX : ∀ k ∈ X, k < w.heap.size)
    (hps : ps = #[p]) (hops : ops = #[{ dst := some d, op := .assign (.tmp p), type := t, pos := pos, after := after, guard := none }])
    (v : σ → Value) (Mid Pn : σ → World → Prop) (Px : Code → σ → World → Prop) (St Dn : World → Prop)
    (hMid : Abide w.heap.size Mid) (hPn : Abide w.heap.size Pn) (hPx : ∀ c, Abide w.heap.size (Px c)) (hSt : ∀ A C, St A → Calm w.heap.size A C → St C) (hDn : ∀ A C, Dn A → Calm w.heap.size A C → Dn C) (h0 : St w)
    (hgive : ∀ (l : Nat) (rc : World → Prop) (Jx : σ → World → Prop) (W1 : World) (X1 : List Nat), w.heap.size ≤ W1.heap.size → (∀ k ∈ X1, k < W1.heap.size) → (∀ A C, rc A → Calm W1.heap.size A C → rc C) → (∀ A C, rc A → BookX [] A C → rc C) → Abide W1.heap.size Jx →
      (∀ s W', Mid s W' → rc W' → Yields P l #[v s] W' (fun e W'' => ((e = .returned (.bool true) ∧ Pn s W'' ∧ rc W'') ∨ (e = .returned (.bool false) ∧ Jx s W'')) ∧ BookX X1 W' W'')) → St W1 → rc W1 →
      Calls P gf (#[.func (.yield l) #[] #[]] ++ lb) W1 (fun e W' => (∃ v, e = .returned v) ∧ ((Dn W' ∧ rc W') ∨ ∃ s, Jx s W')))
    (hbody : ∀ (l : Nat) (s : σ) (W : World), w.heap.size ≤ l → (∃ r, W.heap[l]? = some (.loop r)) → Mid s W →
      body.wpIn (Fence.wide.inRound l) 0 P (bodyEnd X (Pn s) (fun c => Px c s) W) (frame1 a p d (v s)) W)
    (hdone : ∀ (D : Nat) (W : World), w.heap.size ≤ D → Dn W → W.heap[D]? = some (.deferred (some [])) → Q .normal { a with defers := markAt D :: a.defers } W)
    (hstop : ∀ (D : Nat) (c : Code) (s : σ) (W : World), w.heap.size ≤ D → Px c s W → W.heap[D]? = some (.deferred (some [])) → c.wpIn Fence.wide n P Q { a with defers := markAt D :: a.defers } W) :
    (Code.rangeFunc g ps (.region id ops false) body).wpIn Fence.wide n P Q a w := by
  subst hps
  refine range_outerS X hg eg hX (fun s => #[v s]) Mid Pn Px St Dn hMid hPn hPx hSt hDn h0 hgive (fun _ => rfl) (fun s a' _ => a' = frame1 a p d (v s)) (fun _ _ _ _ h _ => h) ?_ (fun l s a' W hl hr hm ha => by subst ha; exact hbody l s W hl hr hm) hdone hstop
  intro l s W K hm hK
  refine assign_walk hops ?_
  exact hK _ _ (BookX.refl _ _) hm (by simp [frame1])

theorem range_inner1S {σ : Type} {n : Nat} (X : List Nat) {g : Operand} {ps : Array Tmp} {id : Nat} {ops : Array Oper} {d p : Nat} {t : TypeId} {pos : String} {after : Array Edge} {body : Code} {Q : Exit → Act → World → Prop} {a : Act} {w : World} {l₀ : Nat} {r₀ : Loop} (hl₀ : w.heap[l₀]? = some (.loop r₀))
    {gf : Nat} {lb : Array Value} (hg : a.eval g = .func (.func gf) #[] lb) (eg : Enters P gf) (hX : ∀ k ∈ X, k < w.heap.size)
    (hps : ps = #[p]) (hops : ops = #[{ dst := some d, op := .assign (.tmp p), type := t, pos := pos, after := after, guard := none }])
    (v : σ → Value) (Mid Pn : σ → World → Prop) (Px : Code → σ → World → Prop) (St Dn : World → Prop)
    (hMid : Abide w.heap.size Mid) (hPn : Abide w.heap.size Pn) (hPx : ∀ c, Abide w.heap.size (Px c)) (hSt : ∀ A C, St A → Calm w.heap.size A C → St C) (hDn : ∀ A C, Dn A → Calm w.heap.size A C → Dn C) (h0 : St w)
    (hgive : ∀ (l : Nat) (rc : World → Prop) (Jx : σ → World → Prop) (W1 : World) (X1 : List Nat), w.heap.size ≤ W1.heap.size → (∀ k ∈ X1, k < W1.heap.size) → (∀ A C, rc A → Calm W1.heap.size A C → rc C) → (∀ A C, rc A → BookX [] A C → rc C) → Abide W1.heap.size Jx →
      (∀ s W', Mid s W' → rc W' → Yields P l #[v s] W' (fun e W'' => ((e = .returned (.bool true) ∧ Pn s W'' ∧ rc W'') ∨ (e = .returned (.bool false) ∧ Jx s W'')) ∧ BookX X1 W' W'')) → St W1 → rc W1 →
      Calls P gf (#[.func (.yield l) #[] #[]] ++ lb) W1 (fun e W' => (∃ v, e = .returned v) ∧ ((Dn W' ∧ rc W') ∨ ∃ s, Jx s W')))
    (hbody : ∀ (l : Nat) (s : σ) (W : World), w.heap.size ≤ l → (∃ r, W.heap[l]? = some (.loop r)) → Mid s W →
      body.wpIn (Fence.wide.inRound l) 0 P (bodyEnd X (Pn s) (fun c => Px c s) W) (frame1 a p d (v s)) W)
    (hdone : ∀ (W : World), Dn W → Q .normal a W)
    (hstop : ∀ (c : Code) (s : σ) (W : World), Px c s W → c.wpIn (Fence.wide.inRound l₀) n P Q a W) :
    (Code.rangeFunc g ps (.region id ops false) body).wpIn (Fence.wide.inRound l₀) n P Q a w := by
  subst hps
  refine range_innerS X hl₀ hg eg hX (fun s => #[v s]) Mid Pn Px St Dn hMid hPn hPx hSt hDn h0 hgive (fun _ => rfl) (fun s a' _ => a' = frame1 a p d (v s)) (fun _ _ _ _ h _ => h) ?_ (fun l s a' W hl hr hm ha => by subst ha; exact hbody l s W hl hr hm) hdone hstop
  intro l s W K hm hK
  refine assign_walk hops ?_
  exact hK _ _ (BookX.refl _ _) hm (by simp [frame1])

theorem range_outer1 {α : Type} {n : Nat} (X : List Nat) {g : Operand} {ps : Array Tmp} {id : Nat} {ops : Array Oper} {d p : Nat} {t : TypeId} {pos : String} {after : Array Edge} {body : Code} {Q : Exit → Act → World → Prop} {a : Act} {w : World}
    {gf : Nat} {lb : Array Value} {v : α → Value} {adm : List α → α → Prop} {fin : List α → Prop} {Rd : World → Prop}
    (hg : a.eval g = .func (.func gf) #[] lb) (eg : Enters P gf) (hgive : Gives P gf lb (fun x => #[v x]) adm fin Rd) (hX : ∀ k ∈ X, k < w.heap.size)
    (hps : ps = #[p]) (hops : ops = #[{ dst := some d, op := .assign (.tmp p), type := t, pos := pos, after := after, guard := none }])
    (I : List α → World → Prop) (Ix : Code → List α → World → Prop) (hI : Abide w.heap.size I) (hIx : ∀ c, Abide w.heap.size (Ix c)) (hRd : ∀ pre W, I pre W → Rd W) (h0 : I [] w)
    (hbody : ∀ (l : Nat) (pre : List α) (x : α) (W : World), w.heap.size ≤ l → (∃ r, W.heap[l]? = some (.loop r)) → I pre W → adm pre x →
      body.wpIn (Fence.wide.inRound l) 0 P (bodyEnd X (I (pre ++ [x])) (fun c => Ix c (pre ++ [x])) W) (frame1 a p d (v x)) W)
    (hdone : ∀ (D : Nat) (xs : List α) (W : World), w.heap.size ≤ D → fin xs → I xs W → W.heap[D]? = some (.deferred (some [])) → Q .normal { a with defers := markAt D :: a.defers } W)
    (hstop : ∀ (D : Nat) (c : Code) (pre : List α) (W : World), w.heap.size ≤ D → Ix c pre W → W.heap[D]? = some (.deferred (some [])) → c.wpIn Fence.wide n P Q { a with defers := markAt D :: a.defers } W) :
    (Code.rangeFunc g ps (.region id ops false) body).wpIn Fence.wide n P Q a w := by
  subst hps
  refine range_outer X hg eg hgive (fun _ => rfl) hX I Ix hI hIx hRd h0 (fun x a' _ => a' = frame1 a p d (v x)) (fun _ _ _ _ h _ => h) ?_ (fun l pre x a' W hl hr hi hm ha => by subst ha; exact hbody l pre x W hl hr hi hm) hdone hstop
  intro l pre x W K hi hm hK
  refine assign_walk hops ?_
  exact hK _ _ (BookX.refl _ _) hi (by simp [frame1])

theorem range_inner1 {α : Type} {n : Nat} (X : List Nat) {g : Operand} {ps : Array Tmp} {id : Nat} {ops : Array Oper} {d p : Nat} {t : TypeId} {pos : String} {after : Array Edge} {body : Code} {Q : Exit → Act → World → Prop} {a : Act} {w : World} {l₀ : Nat} {r₀ : Loop} (hl₀ : w.heap[l₀]? = some (.loop r₀))
    {gf : Nat} {lb : Array Value} {v : α → Value} {adm : List α → α → Prop} {fin : List α → Prop} {Rd : World → Prop}
    (hg : a.eval g = .func (.func gf) #[] lb) (eg : Enters P gf) (hgive : Gives P gf lb (fun x => #[v x]) adm fin Rd) (hX : ∀ k ∈ X, k < w.heap.size)
    (hps : ps = #[p]) (hops : ops = #[{ dst := some d, op := .assign (.tmp p), type := t, pos := pos, after := after, guard := none }])
    (I : List α → World → Prop) (Ix : Code → List α → World → Prop) (hI : Abide w.heap.size I) (hIx : ∀ c, Abide w.heap.size (Ix c)) (hRd : ∀ pre W, I pre W → Rd W) (h0 : I [] w)
    (hbody : ∀ (l : Nat) (pre : List α) (x : α) (W : World), w.heap.size ≤ l → (∃ r, W.heap[l]? = some (.loop r)) → I pre W → adm pre x →
      body.wpIn (Fence.wide.inRound l) 0 P (bodyEnd X (I (pre ++ [x])) (fun c => Ix c (pre ++ [x])) W) (frame1 a p d (v x)) W)
    (hdone : ∀ (xs : List α) (W : World), fin xs → I xs W → Q .normal a W)
    (hstop : ∀ (c : Code) (pre : List α) (W : World), Ix c pre W → c.wpIn (Fence.wide.inRound l₀) n P Q a W) :
    (Code.rangeFunc g ps (.region id ops false) body).wpIn (Fence.wide.inRound l₀) n P Q a w := by
  subst hps
  refine range_inner X hl₀ hg eg hgive (fun _ => rfl) hX I Ix hI hIx hRd h0 (fun x a' _ => a' = frame1 a p d (v x)) (fun _ _ _ _ h _ => h) ?_ (fun l pre x a' W hl hr hi hm ha => by subst ha; exact hbody l pre x W hl hr hi hm) hdone hstop
  intro l pre x W K hi hm hK
  refine assign_walk hops ?_
  exact hK _ _ (BookX.refl _ _) hi (by simp [frame1])

end Go.Proofs.Ytbainekfbonbjaa
