/- A net and the reference's net side by side. No statement is proved here; nothing is assumed. -/
import Derived.Test.YtnomnhlfenhjdaaNetZd
import Derived.Test.YtnomnhlfenhjdaaNetT
namespace Go.Proofs.Ytnomnhlfenhjdaa
open Go.RowKit Go.Shelf
set_option linter.unusedVariables false
set_option linter.unusedSimpArgs false
attribute [local go_sem] Oper.semAt_some

theorem OwnAt.kept {B : Nat} {W W' : World} {e : TypeId} {v : Value} {vals : List Value} (h : OwnAt B W e v vals) (hs : ∀ g, v.ownBlock = some g → g < W.heap.size → W'.heap[g]? = W.heap[g]?) : OwnAt B W' e v vals := by
  rcases h with h | ⟨g, off, cap, cur, rfl, hb, hg, rest⟩
  · exact .inl h
  · exact .inr ⟨g, off, cap, cur, rfl, hb, (hs g rfl (heap_lt hg)).trans hg, rest⟩
section
variable {B : Nat} {W W' : World} {bn : Nat} {r : Nat → Value} {e : Nat → List Sl} {d : Nat → List (List Value)}
theorem NetAt.kept (h : NetAt B W bn r e d) (hs : ∀ g, g < W.heap.size → ¬ Shuns bn r e g → W'.heap[g]? = W.heap[g]?) : NetAt B W' bn r e d :=
  ⟨(hs bn (heap_lt h.xo) (fun c => c.1 rfl)).trans h.xo, h.bn0, fun k hk => (h.xr k hk).kept (fun g hg hl => hs g hl (fun c => c.2.1 k hk hg)), h.xl, fun k hk j s c h1 h2 => (h.xd k hk j s c h1 h2).kept (fun g hg hl => hs g hl (fun cc => cc.2.2 k hk j s h1 hg)), h.nr, h.ne⟩
theorem RefAt.kept (h : RefAt B W bn r e d) (hs : ∀ g, g < W.heap.size → ¬ Shuns bn r e g → W'.heap[g]? = W.heap[g]?) : RefAt B W' bn r e d :=
  ⟨(hs bn (heap_lt h.xo) (fun c => c.1 rfl)).trans h.xo, h.bn0, fun k hk => (h.xr k hk).kept (fun g hg hl => hs g hl (fun c => c.2.1 k hk hg)), h.xl, fun k hk j s c h1 h2 => (h.xd k hk j s c h1 h2).kept (fun g hg hl => hs g hl (fun cc => cc.2.2 k hk j s h1 hg)), h.nr, h.ne⟩
theorem NetAt.fresh (h : NetAt B W bn r e d) {g : Nat} (hg : W.heap.size ≤ g) : Shuns bn r e g :=
  ⟨fun c => by have := heap_lt h.xo; omega, fun k hk c => by have := (h.rowBlock hk c).2.1; omega, fun k hk j s hs c => by
    obtain ⟨_, _, ho⟩ := h.elem hk hs
    have := (ho.block c).2.1; omega⟩
theorem RefAt.fresh (h : RefAt B W bn r e d) {g : Nat} (hg : W.heap.size ≤ g) : Shuns bn r e g :=
  ⟨fun c => by have := heap_lt h.xo; omega, fun k hk c => by have := (h.rowBlock hk c).2.1; omega, fun k hk j s hs c => by
    obtain ⟨_, _, ho⟩ := h.elem hk hs
    have := (ho.block c).2.1; omega⟩
theorem NetAt.odd (h : NetAt B W bn r e d) {g : Nat} {o : Obj} (ho : W.heap[g]? = some o) (ht : netTyped o = false) : Shuns bn r e g :=
  by
  refine ⟨fun c => ?_, fun k hk c => ?_, fun k hk j s hs c => ?_⟩
  · subst c
    rw [show W.heap[g]? = _ from h.xo] at ho
    cases ho
    cases ht
  · obtain ⟨_, _, cur, hc⟩ := (h.xr k hk).block c
    rw [hc] at ho
    cases ho
    cases ht
  · obtain ⟨_, _, ho'⟩ := h.elem hk hs
    obtain ⟨_, _, cur, hc⟩ := ho'.block c
    rw [hc] at ho
    cases ho
    cases ht
theorem RefAt.odd (h : RefAt B W bn r e d) {g : Nat} {o : Obj} (ho : W.heap[g]? = some o) (ht : netTyped o = false) : Shuns bn r e g :=
  by
  refine ⟨fun c => ?_, fun k hk c => ?_, fun k hk j s hs c => ?_⟩
  · subst c
    rw [show W.heap[g]? = _ from h.xo] at ho
    cases ho
    cases ht
  · obtain ⟨_, _, cur, hc⟩ := (h.xr k hk).block c
    rw [hc] at ho
    cases ho
    cases ht
  · obtain ⟨_, _, ho'⟩ := h.elem hk hs
    obtain ⟨_, _, cur, hc⟩ := ho'.block c
    rw [hc] at ho
    cases ho
    cases ht
theorem NetAt.low (h : NetAt B W bn r e d) {g : Nat} (hg : g < B) : Shuns bn r e g :=
  ⟨fun c => by have := h.bn0; omega, fun k hk c => by have := (h.rowBlock hk c).1; omega, fun k hk j s hs c => by
    obtain ⟨_, _, ho⟩ := h.elem hk hs
    have := (ho.block c).1; omega⟩
end

/-- A net and the reference's, made of other blocks; the net is made of no block of Y, the reference's of none of Z. -/
structure PairAt (B bn rb : Nat) (Ln Lr : Rows2) (Y Z : Nat → Prop) (r : Nat → Value) (e : Nat → List Sl) (r' : Nat → Value) (e' : Nat → List Sl) (W : World) : Prop where
  n : NetAt B W bn r e (vals Ln)
  f : RefAt B W rb r' e' (vals Lr)
  ap : ∀ g, Shuns bn r e g ∨ Shuns rb r' e' g
  sn : Sound Ln
  sf : Sound Lr
  y : ∀ g, Y g → g < W.heap.size ∧ Shuns bn r e g
  z : ∀ g, Z g → g < W.heap.size ∧ Shuns rb r' e' g
def Pair (B bn rb : Nat) (Ln Lr : Rows2) (Y Z : Nat → Prop) (W : World) : Prop := ∃ r e r' e', PairAt B bn rb Ln Lr Y Z r e r' e' W

section
variable {B : Nat} {W W' : World} {bn rb : Nat} {Ln Lr : Rows2} {Y Z : Nat → Prop}
theorem Pair.mono (h : Pair B bn rb Ln Lr Y Z W) {Y' Z' : Nat → Prop} (hy : ∀ g, Y' g → Y g) (hz : ∀ g, Z' g → Z g) : Pair B bn rb Ln Lr Y' Z' W := by
  obtain ⟨r, e, r', e', h⟩ := h
  exact ⟨r, e, r', e', h.n, h.f, h.ap, h.sn, h.sf, fun g hg => h.y g (hy g hg), fun g hg => h.z g (hz g hg)⟩
theorem Pair.same (h : Pair B bn rb Ln Lr Y Z W) (hs : Step [] W W') : Pair B bn rb Ln Lr (fun g => Y g ∨ (W.heap.size ≤ g ∧ g < W'.heap.size)) (fun g => Z g ∨ (W.heap.size ≤ g ∧ g < W'.heap.size)) W' := by
  obtain ⟨r, e, r', e', h⟩ := h
  have := hs.size
  exact ⟨r, e, r', e', h.n.same hs, h.f.same hs, h.ap, h.sn, h.sf, fun g hg => hg.elim (fun c => ⟨by have := (h.y g c).1; omega, (h.y g c).2⟩) (fun c => ⟨c.2, h.n.fresh c.1⟩), fun g hg => hg.elim (fun c => ⟨by have := (h.z g c).1; omega, (h.z g c).2⟩) (fun c => ⟨c.2, h.f.fresh c.1⟩)⟩
theorem Pair.same' (h : Pair B bn rb Ln Lr Y Z W) (hs : Step [] W W') : Pair B bn rb Ln Lr Y Z W' := (h.same hs).mono (fun _ => .inl) (fun _ => .inl)
theorem Pair.write {S : List Nat} (h : Pair B bn rb Ln Lr Y Z W) (hs : Step S W W') (hS : ∀ g ∈ S, g < W.heap.size → (Y g ∧ Z g) ∨ ∃ o, W.heap[g]? = some o ∧ netTyped o = false) : Pair B bn rb Ln Lr Y Z W' := by
  obtain ⟨r, e, r', e', h⟩ := h
  have hz := hs.size
  exact ⟨r, e, r', e', h.n.kept (fun g hl hg => hs.same g hl (fun hm => (hS g hm hl).elim (fun c => hg (h.y g c.1).2) (fun ⟨o, ho, ht⟩ => hg (h.n.odd ho ht)))), h.f.kept (fun g hl hg => hs.same g hl (fun hm => (hS g hm hl).elim (fun c => hg (h.z g c.2).2) (fun ⟨o, ho, ht⟩ => hg (h.f.odd ho ht)))), h.ap, h.sn, h.sf, fun g hg => ⟨by have := (h.y g hg).1; omega, (h.y g hg).2⟩, fun g hg => ⟨by have := (h.z g hg).1; omega, (h.z g hg).2⟩⟩
theorem PairAt.net {r : Nat → Value} {e : Nat → List Sl} {r' : Nat → Value} {e' : Nat → List Sl} (h : PairAt B bn rb Ln Lr Y Z r e r' e' W) {Ln' : Rows2} (hn : NGot B W bn r e Ln' W') (hS : Sound Ln') :
    Pair B bn rb Ln' Lr Y (fun g => Z g ∨ (g < W.heap.size ∧ ¬ Shuns bn r e g)) W' ∧ StepB B W W' ∧ ∀ g, Y g → W'.heap[g]? = W.heap[g]? := by
  obtain ⟨r1, e1, hN, hB, hL⟩ := hn
  have hz : W.heap.size ≤ W'.heap.size := by obtain ⟨_, _, hs⟩ := hB; exact hs.size
  have hd : ∀ g, ¬ Shuns rb r' e' g → Shuns bn r e g := fun g hg => (h.ap g).resolve_right hg
  refine ⟨⟨r1, e1, r', e', hN, h.f.kept (fun g hl hg => (hL g hl (hd g hg)).2), fun g => ?_, hS, h.sf, fun g hg => ⟨by have := (h.y g hg).1; omega, (hL g (h.y g hg).1 (h.y g hg).2).1⟩, fun g hg => ?_⟩, hB, fun g hg => (hL g (h.y g hg).1 (h.y g hg).2).2⟩
  · by_cases hl : g < W.heap.size
    · rcases h.ap g with c | c
      · exact .inl (hL g hl c).1
      · exact .inr c
    · exact .inr (h.f.fresh (by omega))
  · rcases hg with hg | ⟨hl, hg⟩
    · exact ⟨by have := (h.z g hg).1; omega, (h.z g hg).2⟩
    · exact ⟨by omega, (h.ap g).resolve_left hg⟩
theorem PairAt.ref {r : Nat → Value} {e : Nat → List Sl} {r' : Nat → Value} {e' : Nat → List Sl} (h : PairAt B bn rb Ln Lr Y Z r e r' e' W) {Lr' : Rows2} (hn : RGot B W rb r' e' Lr' W') (hS : Sound Lr') :
    Pair B bn rb Ln Lr' Y Z W' ∧ StepB B W W' ∧ ∀ g, Z g → W'.heap[g]? = W.heap[g]? := by
  obtain ⟨r1, e1, hN, hB, hL⟩ := hn
  have hz : W.heap.size ≤ W'.heap.size := by obtain ⟨_, _, hs⟩ := hB; exact hs.size
  have hd : ∀ g, ¬ Shuns bn r e g → Shuns rb r' e' g := fun g hg => (h.ap g).resolve_left hg
  refine ⟨⟨r, e, r1, e1, h.n.kept (fun g hl hg => (hL g hl (hd g hg)).2), hN, fun g => ?_, h.sn, hS, fun g hg => ⟨by have := (h.y g hg).1; omega, (h.y g hg).2⟩, fun g hg => ⟨by have := (h.z g hg).1; omega, (hL g (h.z g hg).1 (h.z g hg).2).1⟩⟩, hB, fun g hg => (hL g (h.z g hg).1 (h.z g hg).2).2⟩
  by_cases hl : g < W.heap.size
  · rcases h.ap g with c | c
    · exact .inl c
    · exact .inr (hL g hl c).1
  · exact .inl (h.n.fresh (by omega))

theorem p_nsnd (way : Int) (v : Value) (xs : List Nat) (hx : ∀ x ∈ xs, x < 256) (h : Pair B bn rb Ln Lr Y Z W) (hv : Reads W v (u8s xs)) (h5 : V5 W v) :
    Calls Try.prog 29 #[.pointer (some ⟨bn, 0, none⟩), .int .i64 way, v] W fun e_ w' => e_ = .returned (.tuple #[.bool (sndLost Ln way xs), .int .i64 (sndE way xs)]) ∧ Pair B bn rb (sndL Ln way xs) Lr Y Z w' ∧ StepB B W w' ∧ ∀ g, Y g → w'.heap[g]? = W.heap[g]? := by
  obtain ⟨r, e, r', e', h⟩ := h
  refine (nsnd_any h.sn way v xs W h.n hv h5).mono ?_
  rintro e_ w' ⟨rfl, hg⟩
  obtain ⟨h1, h2, h3⟩ := h.net hg (h.sn.snd way xs hx)
  exact ⟨rfl, h1.mono (fun _ c => c) (fun _ => .inl), h2, h3⟩
theorem p_rsnd (way : Int) (v : Value) (xs : List Nat) (hx : ∀ x ∈ xs, x < 256) (h : Pair B bn rb Ln Lr Y Z W) (hv : Reads W v (u8s xs)) :
    Calls Try.prog 53 #[.pointer (some ⟨rb, 0, none⟩), .int .i64 way, v] W fun e_ w' => e_ = .returned (.tuple #[.bool (sndLost Lr way xs), .int .i64 (sndE way xs)]) ∧ Pair B bn rb Ln (sndL Lr way xs) Y Z w' ∧ StepB B W w' ∧ ∀ g, Z g → w'.heap[g]? = W.heap[g]? := by
  obtain ⟨r, e, r', e', h⟩ := h
  refine (rsnd_any h.sf way v xs W h.f hv).mono ?_
  rintro e_ w' ⟨rfl, hg⟩
  exact ⟨rfl, h.ref hg (h.sf.snd way xs hx)⟩
theorem p_ndel (way i : Int) (h : Pair B bn rb Ln Lr Y Z W) :
    Calls Try.prog 33 #[.pointer (some ⟨bn, 0, none⟩), .int .i64 way, .int .i64 i] W fun e_ w' => ∃ v, e_ = .returned (.tuple #[v, .int .i64 (standE Ln way i)]) ∧ OwnAt B w' 5 v (u8s (delB Ln way i)) ∧ Pair B bn rb (delL Ln way i) Lr Y (fun g => Z g ∨ v.ownBlock = some g) w' ∧ StepB B W w' ∧ ∀ g, Y g → w'.heap[g]? = W.heap[g]? := by
  obtain ⟨r, e, r', e', h⟩ := h
  refine (ndel_any h.sn way i W h.n).mono ?_
  rintro e_ w' ⟨v, rfl, ho, hb, hg⟩
  obtain ⟨h1, h2, h3⟩ := h.net hg (h.sn.del way i)
  exact ⟨v, rfl, ho, h1.mono (fun _ c => c) (fun g hg => hg.imp id (hb g)), h2, h3⟩
theorem p_rdel (way i : Int) (h : Pair B bn rb Ln Lr Y Z W) :
    Calls Try.prog 54 #[.pointer (some ⟨rb, 0, none⟩), .int .i64 way, .int .i64 i] W fun e_ w' => ∃ v, e_ = .returned (.tuple #[v, .int .i64 (standE Lr way i)]) ∧ OwnAt B w' 5 v (u8s (delB Lr way i)) ∧ Pair B bn rb Ln (delL Lr way i) Y Z w' ∧ StepB B W w' ∧ ∀ g, Z g → w'.heap[g]? = W.heap[g]? := by
  obtain ⟨r, e, r', e', h⟩ := h
  refine (rdel_any h.sf way i W h.f).mono ?_
  rintro e_ w' ⟨v, rfl, ho, hb, hg⟩
  exact ⟨v, rfl, ho, h.ref hg (h.sf.del way i)⟩
theorem p_ndbl (way i : Int) (h : Pair B bn rb Ln Lr Y Z W) :
    Calls Try.prog 32 #[.pointer (some ⟨bn, 0, none⟩), .int .i64 way, .int .i64 i] W fun e_ w' => e_ = .returned (.int .i64 (dblE Ln way i)) ∧ Pair B bn rb (dblL Ln way i) Lr Y Z w' ∧ StepB B W w' := by
  obtain ⟨r, e, r', e', h⟩ := h
  refine (ndbl_any h.sn way i W h.n).mono ?_
  rintro e_ w' ⟨rfl, hg⟩
  obtain ⟨h1, h2, h3⟩ := h.net hg (h.sn.dbl way i)
  exact ⟨rfl, h1.mono (fun _ c => c) (fun _ => .inl), h2⟩
theorem p_rdbl (way i : Int) (h : Pair B bn rb Ln Lr Y Z W) :
    Calls Try.prog 55 #[.pointer (some ⟨rb, 0, none⟩), .int .i64 way, .int .i64 i] W fun e_ w' => e_ = .returned (.int .i64 (dblE Lr way i)) ∧ Pair B bn rb Ln (dblL Lr way i) Y Z w' ∧ StepB B W w' := by
  obtain ⟨r, e, r', e', h⟩ := h
  refine (rdbl_any h.sf way i W h.f).mono ?_
  rintro e_ w' ⟨rfl, hg⟩
  obtain ⟨h1, h2, h3⟩ := h.ref hg (h.sf.dbl way i)
  exact ⟨rfl, h1, h2⟩
theorem p_nflp (way i b : Int) (hb : b < 9223372036854775808) (h : Pair B bn rb Ln Lr Y Z W) :
    Calls Try.prog 30 #[.pointer (some ⟨bn, 0, none⟩), .int .i64 way, .int .i64 i, .int .i64 b] W fun e_ w' => e_ = .returned (.int .i64 (flpE Ln way i b)) ∧ Pair B bn rb (flpL Ln way i b) Lr Y Z w' ∧ StepB B W w' := by
  obtain ⟨r, e, r', e', h⟩ := h
  refine (nflp_any h.sn way i b hb W h.n).mono ?_
  rintro e_ w' ⟨rfl, hg⟩
  obtain ⟨h1, h2, h3⟩ := h.net hg (h.sn.flp way i b)
  exact ⟨rfl, h1.mono (fun _ c => c) (fun _ => .inl), h2⟩
theorem p_rflp (way i b : Int) (h : Pair B bn rb Ln Lr Y Z W) :
    Calls Try.prog 56 #[.pointer (some ⟨rb, 0, none⟩), .int .i64 way, .int .i64 i, .int .i64 b] W fun e_ w' => e_ = .returned (.int .i64 (flpE Lr way i b)) ∧ Pair B bn rb Ln (flpL Lr way i b) Y Z w' ∧ StepB B W w' := by
  obtain ⟨r, e, r', e', h⟩ := h
  refine (rflp_any h.sf way i b W h.f).mono ?_
  rintro e_ w' ⟨rfl, hg⟩
  obtain ⟨h1, h2, h3⟩ := h.ref hg (h.sf.flp way i b)
  exact ⟨rfl, h1, h2⟩
end

/-- bytes.Equal of what is alike. -/
theorem equal_any (v v' : Value) (xs : List Nat) (hx : ∀ x ∈ xs, x < 256) (w : World) (h : Reads w v (u8s xs)) (h' : Reads w v' (u8s xs)) :
    Calls Try.prog 40 #[v, v'] w fun e w' => e = .returned (.bool true) ∧ w = w' := by
  have c1 := back_all w v xs hx h
  have c2 := back_all w v' xs hx h'
  clear h h'
  generalize strN xs = s at c1 c2
  have he : (binOp .eql 9 (.string s) (.string s)).run Try.prog w = .ok (.bool true) w := by
    rw [binOp_string_eql, beq_self_eq_true]; rfl
  go_enter Try.func40, Try.ntmps40
  go_wp2
  go_ret
  exact ⟨rfl, rfl⟩
end Go.Proofs.Ytnomnhlfenhjdaa
