/- net: loops over All, the left sides plain; contracts over what waits alone, further. No statement is proved here; nothing is assumed. -/
import Derived.Test.YtnomnhlfenhjdaaNetR
import Derived.Test.YtnomnhlfenhjdaaBaseB
namespace Go.Proofs.Ytnomnhlfenhjdaa
open Go.RowKit Go.Shelf
set_option linter.unusedVariables false

theorem enters50 : Enters Try.prog 50 := enters_of Try.func50 (by kernel_rfl) rfl

/-- The frame in which a round's body begins, where the loop has no variables of its own. -/
def frame0 (a : Act) (p1 p2 : Nat) (v1 v2 : Value) : Act := { tmps := (a.tmps.setIfInBounds p1 v1).setIfInBounds p2 v2, defers := [] }
theorem range_outer0S {P : Program} {σ : Type} {n : Nat} (X : List Nat) {g : Operand} {ps : Array Tmp} {p1 p2 : Nat} {body : Code} {Q : Exit → Act → World → Prop} {a : Act} {w : World}
    {gf : Nat} {lb : Array Value} (hg : a.eval g = .func (.func gf) #[] lb) (eg : Enters P gf) (hX : ∀ k ∈ X, k < w.heap.size) (hps : ps = #[p1, p2])
    (v1 v2 : σ → Value) (Mid Pn : σ → World → Prop) (Px : Code → σ → World → Prop) (St Dn : World → Prop)
    (hMid : Abide w.heap.size Mid) (hPn : Abide w.heap.size Pn) (hPx : ∀ c, Abide w.heap.size (Px c)) (hSt : ∀ A C, St A → Calm w.heap.size A C → St C) (hDn : ∀ A C, Dn A → Calm w.heap.size A C → Dn C) (h0 : St w)
    (hgive : ∀ (l : Nat) (rc : World → Prop) (Jx : σ → World → Prop) (W1 : World) (X1 : List Nat), w.heap.size ≤ W1.heap.size → (∀ k ∈ X1, k < W1.heap.size) → (∀ A C, rc A → Calm W1.heap.size A C → rc C) → (∀ A C, rc A → BookX [] A C → rc C) → Abide W1.heap.size Jx →
      (∀ s W', Mid s W' → rc W' → Yields P l #[v1 s, v2 s] W' (fun e W'' => ((e = .returned (.bool true) ∧ Pn s W'' ∧ rc W'') ∨ (e = .returned (.bool false) ∧ Jx s W'')) ∧ BookX X1 W' W'')) → St W1 → rc W1 →
      Calls P gf (#[.func (.yield l) #[] #[]] ++ lb) W1 (fun e W' => (∃ v, e = .returned v) ∧ ((Dn W' ∧ rc W') ∨ ∃ s, Jx s W')))
    (hbody : ∀ (l : Nat) (s : σ) (W : World), w.heap.size ≤ l → (∃ r, W.heap[l]? = some (.loop r)) → Mid s W →
      body.wpIn (Fence.wide.inRound l) 0 P (bodyEnd X (Pn s) (fun c => Px c s) W) (frame0 a p1 p2 (v1 s) (v2 s)) W)
    (hdone : ∀ (D : Nat) (W : World), w.heap.size ≤ D → Dn W → W.heap[D]? = some (.deferred (some [])) → Q .normal { a with defers := markAt D :: a.defers } W)
    (hstop : ∀ (D : Nat) (c : Code) (s : σ) (W : World), w.heap.size ≤ D → Px c s W → W.heap[D]? = some (.deferred (some [])) → c.wpIn Fence.wide n P Q { a with defers := markAt D :: a.defers } W) :
    (Code.rangeFunc g ps .skip body).wpIn Fence.wide n P Q a w := by
  subst hps
  refine range_outerS X hg eg hX (fun s => #[v1 s, v2 s]) Mid Pn Px St Dn hMid hPn hPx hSt hDn h0 hgive (fun _ => rfl) (fun s a' _ => a' = frame0 a p1 p2 (v1 s) (v2 s)) (fun _ _ _ _ h _ => h) ?_ (fun l s a' W hl hr hm ha => by subst ha; exact hbody l s W hl hr hm) hdone hstop
  intro l s W K hm hK
  exact wpIn_skip (hK _ _ (BookX.refl _ _) hm (by simp [frame0]))
/-- The same, the loop's two variables plain slots. -/
def frame2 (a : Act) (p1 p2 d1 d2 : Nat) (v1 v2 : Value) : Act :=
  { tmps := (((a.tmps.setIfInBounds p1 v1).setIfInBounds p2 v2).setIfInBounds d1 (((a.tmps.setIfInBounds p1 v1).setIfInBounds p2 v2).getD p1 undef)).setIfInBounds d2 ((((a.tmps.setIfInBounds p1 v1).setIfInBounds p2 v2).setIfInBounds d1 (((a.tmps.setIfInBounds p1 v1).setIfInBounds p2 v2).getD p1 undef)).getD p2 undef), defers := [] }
theorem range_outer2S {P : Program} {σ : Type} {n : Nat} (X : List Nat) {g : Operand} {ps : Array Tmp} {p1 p2 d1 d2 id1 id2 : Nat} {ops1 ops2 : Array Oper} {t1 t2 : TypeId} {pos1 pos2 : String} {af1 af2 : Array Edge} {body : Code} {Q : Exit → Act → World → Prop} {a : Act} {w : World}
    {gf : Nat} {lb : Array Value} (hg : a.eval g = .func (.func gf) #[] lb) (eg : Enters P gf) (hX : ∀ k ∈ X, k < w.heap.size) (hps : ps = #[p1, p2])
    (hops1 : ops1 = #[{ dst := some d1, op := .assign (.tmp p1), type := t1, pos := pos1, after := af1, guard := none }]) (hops2 : ops2 = #[{ dst := some d2, op := .assign (.tmp p2), type := t2, pos := pos2, after := af2, guard := none }])
    (v1 v2 : σ → Value) (Mid Pn : σ → World → Prop) (Px : Code → σ → World → Prop) (St Dn : World → Prop)
    (hMid : Abide w.heap.size Mid) (hPn : Abide w.heap.size Pn) (hPx : ∀ c, Abide w.heap.size (Px c)) (hSt : ∀ A C, St A → Calm w.heap.size A C → St C) (hDn : ∀ A C, Dn A → Calm w.heap.size A C → Dn C) (h0 : St w)
    (hgive : ∀ (l : Nat) (rc : World → Prop) (Jx : σ → World → Prop) (W1 : World) (X1 : List Nat), w.heap.size ≤ W1.heap.size → (∀ k ∈ X1, k < W1.heap.size) → (∀ A C, rc A → Calm W1.heap.size A C → rc C) → (∀ A C, rc A → BookX [] A C → rc C) → Abide W1.heap.size Jx →
      (∀ s W', Mid s W' → rc W' → Yields P l #[v1 s, v2 s] W' (fun e W'' => ((e = .returned (.bool true) ∧ Pn s W'' ∧ rc W'') ∨ (e = .returned (.bool false) ∧ Jx s W'')) ∧ BookX X1 W' W'')) → St W1 → rc W1 →
      Calls P gf (#[.func (.yield l) #[] #[]] ++ lb) W1 (fun e W' => (∃ v, e = .returned v) ∧ ((Dn W' ∧ rc W') ∨ ∃ s, Jx s W')))
    (hbody : ∀ (l : Nat) (s : σ) (W : World), w.heap.size ≤ l → (∃ r, W.heap[l]? = some (.loop r)) → Mid s W →
      body.wpIn (Fence.wide.inRound l) 0 P (bodyEnd X (Pn s) (fun c => Px c s) W) (frame2 a p1 p2 d1 d2 (v1 s) (v2 s)) W)
    (hdone : ∀ (D : Nat) (W : World), w.heap.size ≤ D → Dn W → W.heap[D]? = some (.deferred (some [])) → Q .normal { a with defers := markAt D :: a.defers } W)
    (hstop : ∀ (D : Nat) (c : Code) (s : σ) (W : World), w.heap.size ≤ D → Px c s W → W.heap[D]? = some (.deferred (some [])) → c.wpIn Fence.wide n P Q { a with defers := markAt D :: a.defers } W) :
    (Code.rangeFunc g ps ((Code.region id1 ops1 false).seq (.region id2 ops2 false)) body).wpIn Fence.wide n P Q a w := by
  subst hps
  refine range_outerS X hg eg hX (fun s => #[v1 s, v2 s]) Mid Pn Px St Dn hMid hPn hPx hSt hDn h0 hgive (fun _ => rfl) (fun s a' _ => a' = frame2 a p1 p2 d1 d2 (v1 s) (v2 s)) (fun _ _ _ _ h _ => h) ?_ (fun l s a' W hl hr hm ha => by subst ha; exact hbody l s W hl hr hm) hdone hstop
  intro l s W K hm hK
  refine wpIn_seq ?_
  refine assign_walk hops1 ?_
  refine assign_walk hops2 ?_
  exact hK _ _ (BookX.refl _ _) hm (by simp [frame2])

theorem allMid_abide {B' way : Nat} {e : Nat → List Sl} {d : Nat → List (List Value)} {I : Nat → World → Prop} (hI : ∀ k A C, I k A → Calm B' A C → I k C) : Abide B' (AllMid B' way e d I) :=
  fun s A C ⟨h1, h2, h3, c, h4, h5⟩ hc => ⟨h1, hI _ _ _ h2 hc, h3.calm hc, c, h4, h5.calm hc⟩
theorem allPn_abide {B' way : Nat} {e : Nat → List Sl} {I : Nat → World → Prop} (hI : ∀ k A C, I k A → Calm B' A C → I k C) : Abide B' (AllPn B' way e I) :=
  fun s A C ⟨h2, h3⟩ hc => ⟨hI _ _ _ h2 hc, h3.calm hc⟩
theorem NetAt.calm {B B' : Nat} {W W' : World} {bn : Nat} {r : Nat → Value} {e : Nat → List Sl} {d : Nat → List (List Value)} (h : NetAt B W bn r e d) (hs : Calm B' W W') : NetAt B W' bn r e d :=
  ⟨obj_calm h.xo hs rfl, h.bn0, fun k hk => (h.xr k hk).calm hs, h.xl, fun k hk j s c h1 h2 => (h.xd k hk j s c h1 h2).calm hs, h.nr, h.ne⟩

theorem sendFull_L (B bn way : Nat) (hw : way < 2) (l : Nat → List (List Value)) (v : Value) (c : List Value) (h1c : ∀ u ∈ c, u.oneCell' = true) (hc : c.length ≤ 600) (hl : 64 ≤ (l way).length) (hl2 : (l way).length < 1000) (w : World) (h : NetL B w bn l) (hv : Reads w v c) (h5 : V5 w v) :
    Calls Try.prog 29 #[.pointer (some ⟨bn, 0, none⟩), .int .i64 (way : Int), v] w fun e w' => e = .returned (.tuple #[.bool true, .int .i64 0]) ∧ NetL B w' bn (upd l way ((l way).eraseIdx 0 ++ [c])) ∧ StepB B w w' ∧ (∀ v c, OwnAt B w 5 v c → OwnAt B w' 5 v c) := by
  obtain ⟨r, e, h⟩ := h
  refine (send_full B bn way hw r e l v c h1c hc (by rw [h.xl way hw]; exact hl) (by rw [h.xl way hw]; exact hl2) w h hv h5).mono ?_
  rintro e1 w' ⟨rfl, r', e', hN, hs, hby⟩
  exact ⟨rfl, ⟨_, _, hN⟩, hs, hby⟩
theorem doubleFull_L (B bn way i : Nat) (hw : way < 2) (l : Nat → List (List Value)) (hi : i < (l way).length) (hl : 64 ≤ (l way).length) (w : World) (h : NetL B w bn l) :
    Calls Try.prog 32 #[.pointer (some ⟨bn, 0, none⟩), .int .i64 (way : Int), .int .i64 (i : Int)] w fun e w' => e = .returned (.int .i64 7) ∧ w = w' := by
  obtain ⟨r, e, h⟩ := h
  exact double_full B bn way i hw r e l (by rw [h.xl way hw]; exact hi) (by rw [h.xl way hw]; exact hl) w h
theorem noAt_out (B bn way : Nat) (hw : way < 2) (i : Int) (l : Nat → List (List Value)) (hi : i < 0 ∨ ((l way).length : Int) ≤ i) (w : World) (h : NetL B w bn l) : NoAt (.pointer (some ⟨bn, 0, none⟩)) (way : Int) i 6 w := by
  obtain ⟨r, e, h⟩ := h
  obtain ⟨q, c, hr, _, _⟩ := (h.xr way hw).form
  rw [List.length_map, h.xl way hw] at hr
  exact ⟨_, at_out bn way i (r 0) (r 1) q _ c hw ((h.rowOf hw).trans hr) hi w h.xo⟩
theorem noWay_bad (B bn : Nat) (way : Int) (hw : way < 0 ∨ 2 ≤ way) (l : Nat → List (List Value)) (w : World) (h : NetL B w bn l) : NoWay (.pointer (some ⟨bn, 0, none⟩)) way 1 w := by
  obtain ⟨r, e, h⟩ := h
  exact way_bad bn way (r 0) (r 1) hw w h.xo
theorem NoWay.at {p : Value} {way E : Int} {w : World} (hE : E = 1 ∨ E = 2) (h : NoWay p way E w) (i : Int) : NoAt p way i E w := ⟨_, at_none p way i E hE w h⟩
end Go.Proofs.Ytnomnhlfenhjdaa
