/- window's statements: Few: the first acts, their bytes cut. No statement is proved here; nothing is assumed. -/
import Derived.Test.YtbainekfbonbjaaWinI
import Derived.Test.YtbainekfbonbjaaOpen
import Derived.Test.YtbainekfbonbjaaOpenB
import Derived.Deep.Slices
import Derived.Deep.Fields
import Derived.ChangeSame
import Derived.ChangeSlices
import Derived.OpenShut
import Derived.Lib.SmallJoins
namespace Go.Proofs.Ytbainekfbonbjaa
open Go.RowKit Go.Shelf Go.ChangeShapes Go.WideShapes Go.Deep Go.Joins
set_option linter.unusedVariables false

/-- The cells of a slice, k to an element: V i j is the cell j of element i. -/
def RowOf (W : World) (q : Option Addr) (n k : Nat) (V : Nat → Nat → Value) : Prop :=
  n = 0 ∨ ∃ b off, q = some ⟨b, off, none⟩ ∧ ∀ i, i < n → ∀ j, j < k → W.cell? ⟨b, off + (i * k + j), none⟩ = some (V i j)

section
variable {H : Type} {P : Program} {enc : TypeId × Value → H} {W : World} {base : Nat} {spare : Nat → Bool} {held : Bool}

/-- A slice of elements of k cells each, out of the datum: its cells, and each element's own reading. -/
theorem open_elems {t e : TypeId} {k : Nat} {r : Reach} {b0 : Nat} {v : Value} {d : DataW H} {p : List MemPlace} (hk : 0 < k) (ht : P.underlying t = some (.slice e)) (hc : P.cellsOf e = k)
    (hv : Value.okWide P W r b0 t v) (h : DataW.Trod enc P W base spare held t v d p) :
    ∃ (q : Option Addr) (n cap : Nat) (V : Nat → Nat → Value), v = .slice q n cap ∧ n ≤ cap ∧ cap ≤ maxLen ∧ RowOf W q n k V ∧
      ∀ i, i < n → ∃ (fuel : Nat) (cs : List Value) (y : DataW H × List MemPlace), cs.length = k ∧ (∀ j, j < k → cs[j]? = some (V i j)) ∧ DataW.trod enc P W base spare held fuel e cs = some y := by
  obtain ⟨q, n, cap, rfl⟩ := okWide_slice ht hv
  obtain ⟨fuel, hf⟩ := h
  rcases open_slice ht hf with ⟨hcs, _⟩ | ⟨a, len, c, m, n', D, Pl, hcs, hb, hl, hm, hmm, hx, hi⟩
  · simp [Value.cells] at hcs
    obtain ⟨rfl, rfl, rfl⟩ := hcs
    exact ⟨none, 0, 0, fun _ _ => undef, rfl, Nat.le_refl _, by simp [maxLen], .inl rfl, fun i hi => absurd hi (by omega)⟩
  · simp [Value.cells] at hcs
    obtain ⟨rfl, rfl, rfl⟩ := hcs
    have hle : n ≤ m := by rw [hmm]; split <;> omega
    rw [hc] at hi
    have hel : ∀ i, ∃ cs : List Value, i < n → cs.length = k ∧ (∀ j, j < k → W.cell? ((a.add (i * k)).add j) = cs[j]?) ∧ ∃ y, DataW.trod enc P W base spare held n' e cs = some y := by
      intro i
      by_cases hin : i < n
      · obtain ⟨cs', h1, h2⟩ := hi i (by omega)
        obtain ⟨_, hlen, hat⟩ := World.cells?_some h1
        exact ⟨cs', fun _ => ⟨hlen, hat, _, h2⟩⟩
      · exact ⟨[], fun h => absurd h hin⟩
    let C := fun i => (hel i).choose
    have hC : ∀ i, i < n → (C i).length = k ∧ (∀ j, j < k → W.cell? ((a.add (i * k)).add j) = (C i)[j]?) ∧ ∃ y, DataW.trod enc P W base spare held n' e (C i) = some y := fun i => (hel i).choose_spec
    clear_value C
    refine ⟨some a, n, cap, fun i j => ((C i)[j]?).getD undef, rfl, hl, hm, ?_, ?_⟩
    · by_cases hn : n = 0
      · exact .inl hn
      · obtain ⟨b, off, spot⟩ := a
        obtain ⟨h1, h2, _⟩ := hC 0 (by omega)
        have h3 := h2 0 hk
        rw [List.getElem?_eq_getElem (by omega)] at h3
        have hspot : spot = none := by simpa [Addr.add] using World.cell?_spot h3
        subst hspot
        refine .inr ⟨b, off, rfl, fun i hi' j hj => ?_⟩
        obtain ⟨h4, h5, _⟩ := hC i hi'
        have h6 := h5 j hj
        rw [add_plain', add_plain', List.getElem?_eq_getElem (by omega)] at h6
        rw [← Nat.add_assoc, h6]
        simp [List.getElem?_eq_getElem (show j < (C i).length by omega)]
    · intro i hi'
      obtain ⟨h4, h5, y, h6⟩ := hC i hi'
      refine ⟨n', C i, y, h4, fun j hj => ?_, h6⟩
      simp [List.getElem?_eq_getElem (show j < (C i).length by omega)]

/-- A field of an element (all of its fields are of one cell). -/
theorem elem_field {e : TypeId} {fs : Array Field} {fuel : Nat} {cs : List Value} {y : DataW H × List MemPlace} (he : P.underlying e = some (.struct fs)) (hone : oneCellFields P fs = true) (hlen : cs.length = fs.size)
    (h : DataW.trod enc P W base spare held fuel e cs = some y) (j : Nat) (f : Field) (hj : fs[j]? = some f) : ∃ (v : Value) (n : Nat) (z : DataW H × List MemPlace), cs[j]? = some v ∧ DataW.trod enc P W base spare held n f.type [v] = some z := by
  obtain ⟨ys, n', _, _, _, hyl, hf⟩ := DataW.trod_struct he h
  obtain ⟨ho, hk⟩ := hone_of hone j f hj
  have hjl : j < fs.size := (Array.getElem?_eq_some_iff.1 hj).1
  have h1 := hf j f hj
  rw [ho, hk] at h1
  have hone' : (cs.drop j).take 1 = [cs[j]'(by omega)] := by
    rw [List.drop_eq_getElem_cons (by omega)]
    rfl
  rw [hone'] at h1
  have hys : ys[j]? = some (ys[j]'(by omega)) := List.getElem?_eq_getElem (by omega)
  exact ⟨_, n', _, List.getElem?_eq_getElem (by omega), h1.trans hys⟩
theorem int_cell {t : TypeId} {k : IntKind} {n : Nat} {v : Value} {z : DataW H × List MemPlace} (ht : P.underlying t = some (.int k)) (h : DataW.trod enc P W base spare held n t [v] = some z) : ∃ a, v = .int k a ∧ (Lit.int k a).wf = true := by
  obtain ⟨a, e0, _, w0⟩ := DataW.trod_int (P := P) ht h
  cases e0
  exact ⟨a, rfl, w0⟩
theorem slice_cell {t e : TypeId} {n : Nat} {v : Value} {z : DataW H × List MemPlace} (ht : P.underlying t = some (.slice e)) (h : DataW.trod enc P W base spare held n t [v] = some z) : ∃ q l c, v = .slice q l c := by
  rcases open_slice ht h with ⟨hcs, _⟩ | ⟨a, len, c, m, n', D, Pl, hcs, _⟩
  · simp at hcs; exact ⟨_, _, _, hcs⟩
  · simp at hcs; exact ⟨_, _, _, hcs⟩
/-- An act: what, its payload, when, ack, mask. -/
def ActIs (W : World) (V : Nat → Value) (a : Int) (q : Option Addr) (n cap : Nat) (xs : List Nat) (t : Int) (k m : Nat) : Prop :=
  V 0 = .int .i64 a ∧ V 1 = .slice q n cap ∧ V 2 = .int .i64 t ∧ V 3 = .int .u32 (k : Int) ∧ V 4 = .int .u32 (m : Int) ∧ (-9223372036854775808 ≤ a ∧ a ≤ 9223372036854775807) ∧ (-9223372036854775808 ≤ t ∧ t ≤ 9223372036854775807) ∧ k < 4294967296 ∧ m < 4294967296 ∧
  n ≤ cap ∧ cap ≤ maxLen ∧ n = xs.length ∧ (∀ x ∈ xs, x < 256) ∧ Reads W (.slice q n cap) (u8s xs) ∧ (q = none → cap = 0)
set_option maxRecDepth 100000 in
theorem open_acts6 {r : Reach} {b0 : Nat} {v : Value} {d : DataW H} {p : List MemPlace} (hv : Value.okWide Try.prog W r b0 63 v) (h : DataW.Trod enc Try.prog W base spare held 63 v d p) :
    ∃ (q : Option Addr) (n cap : Nat) (V : Nat → Nat → Value), v = .slice q n cap ∧ n ≤ cap ∧ cap ≤ maxLen ∧ RowOf W q n 5 V ∧ ∀ i, i < n → ∃ a q n cap xs t k m, ActIs W (V i) a q n cap xs t k m := by
  obtain ⟨q, n, cap, V, rfl, h1, h2, h3, h4⟩ := open_elems (k := 5) (by omega) Try.underlying63 (by kernel_rfl) hv h
  refine ⟨q, n, cap, V, rfl, h1, h2, h3, fun i hi => ?_⟩
  obtain ⟨fuel, cs, y, hl, hc, ht⟩ := h4 i hi
  obtain ⟨v0, _, _, e0, t0⟩ := elem_field Try.underlying73 (by kernel_rfl) hl ht 0 _ rfl
  obtain ⟨v1, _, _, e1, t1⟩ := elem_field Try.underlying73 (by kernel_rfl) hl ht 1 _ rfl
  obtain ⟨v2, _, _, e2, t2⟩ := elem_field Try.underlying73 (by kernel_rfl) hl ht 2 _ rfl
  obtain ⟨v3, _, _, e3, t3⟩ := elem_field Try.underlying73 (by kernel_rfl) hl ht 3 _ rfl
  obtain ⟨v4, _, _, e4, t4⟩ := elem_field Try.underlying73 (by kernel_rfl) hl ht 4 _ rfl
  obtain ⟨x0, rfl, w0⟩ := int_cell Try.underlying3 t0
  obtain ⟨x2, rfl, w2⟩ := int_cell Try.underlying2 t2
  obtain ⟨x3, rfl, w3⟩ := int_cell Try.underlying22 t3
  obtain ⟨k, rfl, hk⟩ := wf_nat w3
  obtain ⟨x4, rfl, w4⟩ := int_cell Try.underlying22 t4
  obtain ⟨m, rfl, hm⟩ := wf_nat w4
  obtain ⟨q4, n4, c4, rfl⟩ := slice_cell Try.underlying71 t1
  obtain ⟨xs, hxl, hr, hx, hn, hcm, hq⟩ := reads_of_ints t1
  have g0 := hc 0 (by omega)
  have g1 := hc 1 (by omega)
  have g2 := hc 2 (by omega)
  have g3 := hc 3 (by omega)
  have g4 := hc 4 (by omega)
  rw [e0] at g0
  rw [e1] at g1
  rw [e2] at g2
  rw [e3] at g3
  rw [e4] at g4
  exact ⟨x0, q4, n4, c4, xs, x2, k, m, (Option.some.inj g0).symm, (Option.some.inj g1).symm, (Option.some.inj g2).symm, (Option.some.inj g3).symm, (Option.some.inj g4).symm, bounds_i64 w0, bounds_i64 w2, hk, hm, hn, hcm, hxl.symm, hx, hr, hq⟩
end
end Go.Proofs.Ytbainekfbonbjaa
namespace Go.Proofs.Ytbainekfbonbjaa
open Go.RowKit Go.Shelf
set_option linter.unusedVariables false
set_option linter.unusedSimpArgs false
attribute [local go_sem] Oper.semAt_some

set_option maxRecDepth 100000 in
theorem info73 : (Try.prog.info? 73).map (fun i => (i.zero, i.size, i.bytes)) = some (some (.agg #[.int .i64 0, .slice none 0 0, .int .i64 0, .int .u32 0, .int .u32 0]), 5, 48) := by kernel_rfl
def actO (a : Int) (v : Value) (t : Int) (k m : Nat) : Obj := .cells #[.int .i64 a, v, .int .i64 t, .int .u32 (k : Int), .int .u32 (m : Int)] 73
def rowA (V : Nat → Value) : List Value := [V 0, (match V 1 with | .slice q n c => .slice q (min n 300) c | v => v), V 2, V 3, V 4]
/-- The acts that were kept. -/
def KeptA (B : Nat) (W : World) (v : Value) (k : Nat) (V : Nat → Nat → Value) : Prop := ∃ xs, W.ownsRow B 73 5 v k xs ∧ ∀ i, i < k → ∀ j, j < 5 → xs[i * 5 + j]? = (rowA (V i))[j]?
theorem KeptA.push {B : Nat} {W' : World} {v' : Value} {k : Nat} {V : Nat → Nat → Value} {xs : List Value} (hx : ∀ i, i < k → ∀ j, j < 5 → xs[i * 5 + j]? = (rowA (V i))[j]?) (hl : xs.length = k * 5) (h : W'.ownsRow B 73 5 v' (k + 1) (xs ++ rowA (V k))) : KeptA B W' v' (k + 1) V := by
  refine ⟨_, h, fun i hi j hj => ?_⟩
  by_cases hik : i < k
  · rw [List.getElem?_append_left (by omega)]; exact hx i hik j hj
  · obtain rfl : i = k := by omega
    rw [List.getElem?_append_right (by omega), hl]
    rw [show i * 5 + j - i * 5 = j by omega]
theorem KeptA.step {B : Nat} {W W' : World} {v : Value} {k : Nat} {V : Nat → Nat → Value} {S : List Nat} (h : KeptA B W v k V) (hs : Step S W W') (hS : ∀ i ∈ S, ∀ cur, W.heap[i]? ≠ some (.cells cur 73 (0, 0))) : KeptA B W' v k V := by
  obtain ⟨xs, h1, hx⟩ := h
  refine ⟨xs, row_step h1 hs (fun g hg hm => ?_), hx⟩
  obtain ⟨_, cur, hc⟩ := row_type h1 g (by simp [hg])
  exact hS g hm cur hc
theorem KeptA.same {B : Nat} {W W' : World} {v : Value} {k : Nat} {V : Nat → Nat → Value} (h : KeptA B W v k V) (hs : Step [] W W') : KeptA B W' v k V := h.step hs (by simp)
theorem KeptA.form {B : Nat} {W : World} {v : Value} {k : Nat} {V : Nat → Nat → Value} (h : KeptA B W v k V) : ∃ q c, v = .slice q k c ∧ k ≤ c ∧ c ≤ maxLen := by
  obtain ⟨xs, ⟨hl, ho⟩, hx⟩ := h
  rcases ho with ⟨h1, h2⟩ | ⟨g, cap, cur, h1, h2, h3, h4, h5, _⟩
  · exact ⟨none, 0, by rw [h1, h2], by omega, by simp [maxLen]⟩
  · exact ⟨_, cap, h1, h4, h5⟩
/-- An act's cells. -/
theorem KeptA.at {B : Nat} {W w : World} {iv : Value} {N k : Nat} {V : Nat → Nat → Value} (h : KeptA B W iv N V) (hk : k < N) {q : Option Addr} {n c kk mm : Nat} {a t : Int} {xs : List Nat} (hA : ActIs w (V k) a q n c xs t kk mm) :
    ∃ g cap, iv = .slice (some ⟨g, 0, none⟩) N cap ∧ N ≤ cap ∧ cap ≤ maxLen ∧ W.cell? ⟨g, k * 5, none⟩ = some (.int .i64 a) ∧ W.cell? ⟨g, k * 5 + 1, none⟩ = some (.slice q (min n 300) c) ∧ W.cell? ⟨g, k * 5 + 2, none⟩ = some (.int .i64 t) ∧
      W.cell? ⟨g, k * 5 + 3, none⟩ = some (.int .u32 (kk : Int)) ∧ W.cell? ⟨g, k * 5 + 4, none⟩ = some (.int .u32 (mm : Int)) := by
  obtain ⟨v0, v1, v2, v3, v4, _⟩ := hA
  obtain ⟨xs, ho, hx⟩ := h
  have hr : rowA (V k) = [.int .i64 a, .slice q (min n 300) c, .int .i64 t, .int .u32 (kk : Int), .int .u32 (mm : Int)] := by unfold rowA; rw [v0, v1, v2, v3, v4]
  have e0 := hx k hk 0 (by omega)
  have e1 := hx k hk 1 (by omega)
  have e2 := hx k hk 2 (by omega)
  have e3 := hx k hk 3 (by omega)
  have e4 := hx k hk 4 (by omega)
  rw [hr] at e0 e1 e2 e3 e4
  obtain ⟨g, cap, r1, r2, r3, r4, _⟩ := row_cell6 ho e0
  have same : ∀ {i : Nat} {x : Value}, xs[i]? = some x → W.cell? ⟨g, i, none⟩ = some x := fun {i x} hi => by
    obtain ⟨g', cap', s1, _, _, s4, _⟩ := row_cell6 ho hi
    rw [r1] at s1
    injection s1 with s1 _ _
    injection s1 with s1
    injection s1 with s1
    subst s1
    exact s4
  exact ⟨g, cap, r1, r2, r3, r4, same e1, same e2, same e3, same e4⟩
theorem new_cells5 {w : World} {h : Nat} {a b c d e : Value} {t : TypeId} (hh : w.heap.size = h) : ∀ (j : Nat) u, [a, b, c, d, e][j]? = some u → (w.alloc (.cells #[a, b, c, d, e] t)).cell? ((⟨h, 0, none⟩ : Addr).add j) = some u := by
  intro j u hu
  rw [add_plain', Nat.zero_add]
  subst hh
  exact cells_cell (by rw [heap_alloc_get, if_pos rfl]) (by simpa using hu)
theorem few6_step {w wr w' : World} {k : Nat} {V : Nat → Nat → Value} {v v' : Value} {xs news : List Value} {o o' : Obj} (ho : wr.ownsRow w.heap.size 73 5 v k xs) (hx : ∀ i, i < k → ∀ j, j < 5 → xs[i * 5 + j]? = (rowA (V i))[j]?) (hr : rowA (V k) = news) (hs : Step [] w wr)
    (ho' : w'.ownsRow w.heap.size 73 5 v' (k + 1) (xs ++ news)) (hg : ((wr.alloc o).alloc o').grownBy w' v.ownBlock) : KeptA w.heap.size w' v' (k + 1) V ∧ Step [] w w' := by
  refine ⟨KeptA.push hx ho.1 (by rw [hr]; exact ho'), ?_⟩
  have h2 := (ho.alloc o).alloc o'
  have h3 : Step v.ownBlock.toList ((wr.alloc o).alloc o') w' := Step.grown hg (fun j hj => by
    obtain ⟨_, cur, hc⟩ := row_type h2 j (by simp [hj])
    exact ⟨.inl (by simp [hj]), fun ob hob => by rw [hc] at hob; cases hob; rfl⟩)
  have h4 : Step [] w ((wr.alloc o).alloc o') := hs.trans ((Step.alloc _ _).trans (Step.alloc _ _))
  exact h4.trans' h3 (fun _ h _ => h) (fun i hi hl => by have := (row_type h2 i hi).1; omega)
set_option maxRecDepth 100000 in
set_option maxHeartbeats 4000000 in
theorem few6_any (most : Nat) (hmost : most ≤ 100) (q : Option Addr) (N cap : Nat) (hN : N ≤ cap) (hcap : cap ≤ maxLen) (V : Nat → Nat → Value) (w : World) (hrow : RowOf w q N 5 V)
    (hV : ∀ i, i < N → ∃ a q n cap xs t k m, ActIs w (V i) a q n cap xs t k m) :
    Calls Try.prog 46 #[.slice q N cap, .int .i64 (most : Int)] w fun e w' => ∃ v, e = .returned v ∧ KeptA w.heap.size w' v (min N most) V ∧ Step [] w w' := by
  obtain ⟨i0, hi0, hz0, hz1, hz2⟩ := info_parts info73
  have HV := Lib.hid hV
  have HR := Lib.hid hrow
  have hNm : (N : Int) ≤ 9223372036854775807 := by unfold maxLen at hcap; omega
  have HM := Lib.hid hmost
  clear hV hrow hN hcap hmost
  go_enter Try.func46, Try.ntmps46
  go_wp2_with fail
  go_loopw [5, 6] (fun v i wr => ∃ k : Nat, k ≤ min N most ∧ i = .int .i64 (k : Int) ∧ (∃ q1 n1, v = .slice q1 k n1) ∧ Hid (KeptA w.heap.size wr v k V ∧ Step [] w wr)) (fun _ i wr => N - (intOf i).toNat)
  case atStart => exact ⟨0, by omega, rfl, ⟨none, 0, rfl⟩, ⟨⟨[], World.ownsRow_nil _ _ _ _, fun i hi => by simp at hi⟩, Step.refl _ _⟩⟩
  case round =>
    obtain ⟨k, hk, rfl, ⟨q1, n1, rfl⟩, hi⟩ := hrel
    by_cases hlt : k < min N most
    · have hkN : k < N := by omega
      have hkm : k < most := by omega
      have s1 : ((k : Int) < (N : Int)) = True := by simp; omega
      have s2 : ((k : Int) < (most : Int)) = True := by simp; omega
      have s1n : (k < N) = True := by simp; omega
      have s2n : (k < most) = True := by simp; omega
      obtain ⟨a, q2, n2, c2, ys, t, kk, mm, hA⟩ := HV.out k hkN
      have hA0 := hA
      obtain ⟨v0, v1, v2, v3, v4, z1, z2, z3, z4, hnc, hc2, z5⟩ := hA
      clear z1 z2 z3 z4 z5
      obtain ⟨b, off, rfl, hc⟩ : ∃ b off, q = some ⟨b, off, none⟩ ∧ ∀ j, j < 5 → wr.cell? ⟨b, off + (k * 5 + j), none⟩ = some (V k j) := by
        rcases HR.out with h0 | ⟨b, off, rfl, hc⟩
        · omega
        · exact ⟨b, off, rfl, fun j hj => step_cell hi.out.2 (hc k hkN j hj)⟩
      have c0 : wr.cell? ⟨b, off + k * 5, none⟩ = some (.int .i64 a) := (hc 0 (by omega)).trans (by rw [v0])
      have c1 : wr.cell? ⟨b, off + k * 5 + 1, none⟩ = some (.slice q2 n2 c2) := (hc 1 (by omega)).trans (by rw [v1])
      have c2' : wr.cell? ⟨b, off + k * 5 + 2, none⟩ = some (.int .i64 t) := (hc 2 (by omega)).trans (by rw [v2])
      have c3 : wr.cell? ⟨b, off + k * 5 + 3, none⟩ = some (.int .u32 (kk : Int)) := (hc 3 (by omega)).trans (by rw [v3])
      have c4 : wr.cell? ⟨b, off + k * 5 + 4, none⟩ = some (.int .u32 (mm : Int)) := (hc 4 (by omega)).trans (by rw [v4])
      have hcm2 : (c2 : Int) ≤ 9223372036854775807 := by unfold maxLen at hc2; omega
      have hRV : rowA (V k) = [.int .i64 a, .slice q2 (min n2 300) c2, .int .i64 t, .int .u32 (kk : Int), .int .u32 (mm : Int)] := by unfold rowA; rw [v0, v1, v2, v3, v4]
      obtain ⟨xs, ho, hx⟩ := hi.out.1
      have HO := Lib.hid ho
      have HX := Lib.hid hx
      have HS := Lib.hid hi.out.2
      have HL := Lib.hid (And.intro hlt (And.intro hkN hkm))
      clear ho hx hi hc hA0 v0 v1 v2 v3 v4 hc2 hlt hkN hkm hk
      obtain ⟨n3, hn3⟩ : ∃ n3, n3 = min n2 300 := ⟨_, rfl⟩
      rw [← hn3] at hRV
      have m1 : min (n2 : Int) 300 = (n3 : Int) := by omega
      have hn32 : n3 ≤ n2 := by omega
      have hn3c : n3 ≤ c2 := by omega
      have wk : IntKind.i64.wrap ((k : Int) + 1) = (k : Int) + 1 := by have := HL.out; have := HM.out; rw [IntKind.wrap_i64]; omega
      have HRV2 := Lib.hid hRV
      clear hRV hn3
      go_wp2_with (at_builtin; refine wpList_append_own _ rfl _ _ 63 rfl w.heap.size 73 i0 _ 5 48 Try.underlying63 hi0 hz0 hz1 hz2 rfl (by omega) (.slice q1 k n1) k xs rfl (by have h1 := (HO.out.alloc (actO a (.slice q2 n3 c2) t kk mm)).alloc (actO a (.slice q2 n3 c2) t kk mm); exact h1) ⟨wr.heap.size + 1, 0, none⟩ 1 1 [.int .i64 a, .slice q2 n3 c2, .int .i64 t, .int .u32 (kk : Int), .int .u32 (mm : Int)] rfl rfl (new_cells5 (by simp)) (by simp [Value.oneCell']) (by have := HL.out; have := HM.out; unfold maxLen; omega) (by have := HL.out; have := HM.out; omega) (by have := HS.out.size; simp; omega) ?_; intro v' w' ho hg _; obtain ⟨q3, n4, rfl⟩ := rowForm6 ho; have HD := Lib.hid (few6_step HO.out HX.out HRV2.out HS.out ho hg); clear ho hg)
      go_roundw
      case rel => exact ⟨k + 1, by have := HL.out; omega, by go_num, ⟨q3, n4, rfl⟩, HD.out⟩
      case measure => have := HL.out; simp [intOf]; omega
    · obtain rfl : k = min N most := by omega
      have HI := Lib.hid hi.out
      obtain ⟨kk, hkk⟩ : ∃ kk, kk = min N most := ⟨_, rfl⟩
      rw [← hkk] at HI
      have HKK := Lib.hid hkk
      rw [← hkk]
      by_cases hNN : kk < N
      · have s1 : ((kk : Int) < (N : Int)) = True := by simp; omega
        have s1n : (kk < N) = True := by simp; omega
        have s2 : ((kk : Int) < (most : Int)) = False := by simp; omega
        have s2n : (kk < most) = False := by simp; omega
        clear hi hlt hk hNN hkk
        go_wp2_with fail
        go_ret
        exact ⟨_, rfl, by rw [← HKK.out]; exact HI.out⟩
      · have s1 : ((kk : Int) < (N : Int)) = False := by simp; omega
        have s1n : (kk < N) = False := by simp; omega
        clear hi hlt hk hNN hkk
        go_wp2_with fail
        go_ret
        exact ⟨_, rfl, by rw [← HKK.out]; exact HI.out⟩
end Go.Proofs.Ytbainekfbonbjaa
