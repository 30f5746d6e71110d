/- Bytes: what can be read, copies, string(b), bytes.Equal (turned from seat B's NetA, NetB, NetM, NetZe). No statement is proved here; nothing is assumed. -/
import Derived.Test.YtbainekfbonbjaaOwn
import Derived.Deep.RegionHeld3
import Derived.Laws.Bits64
import Derived.Laws.IdiomStrings
import Derived.Laws.BytesArg
namespace Go.Proofs.Ytbainekfbonbjaa
open Go.RowKit Go.Shelf
set_option linter.unusedVariables false
attribute [local go_sem] Oper.semAt_some

/-- A slice of bytes as it can be read, wherever it lies. -/
def Reads (W : World) (v : Value) (vals : List Value) : Prop :=
  (∃ q cap, v = .slice q 0 cap ∧ vals = [] ∧ (q = none → cap = 0) ∧ cap ≤ maxLen) ∨ ∃ b off cap, v = .slice (some ⟨b, off, none⟩) vals.length cap ∧ vals.length ≤ cap ∧ cap ≤ maxLen ∧ ∀ j, j < vals.length → W.cell? ⟨b, off + j, none⟩ = vals[j]?
theorem OwnAt.reads {B : Nat} {W : World} {e : TypeId} {v : Value} {vals : List Value} (h : OwnAt B W e v vals) : Reads W v vals := by
  rcases h with ⟨rfl, rfl⟩ | ⟨g, off, cap, cur, rfl, hb, hg, h1, h2, h3, h4⟩
  · exact .inl ⟨none, 0, rfl, rfl, fun _ => rfl, by simp [maxLen]⟩
  · exact .inr ⟨g, off, cap, rfl, h1, h2, fun j hj => by rw [← h4 j hj]; simp [World.cell?, hg]⟩

theorem step_cell {W W' : World} {a : Addr} {v : Value} (hs : Step [] W W') (h : W.cell? a = some v) : W'.cell? a = some v := (hs.below.cell (p := a) (World.block_lt_of_cell? _ _ h)).trans h

theorem add_plain' {b off i : Nat} : (⟨b, off, none⟩ : Addr).add i = ⟨b, off + i, none⟩ := by
  simp only [Addr.add]; split <;> simp_all
theorem step_cell' {W W' : World} {a : Addr} {v : Value} (hs : Step [] W W') (h : W.cell? a = some v) : W'.cell? a = some v := step_cell hs h
theorem Reads.same {W W' : World} {v : Value} {vals : List Value} (h : Reads W v vals) (hs : Step [] W W') : Reads W' v vals := by
  rcases h with h | ⟨b, off, cap, rfl, h1, h2, h3⟩
  · exact .inl h
  · refine .inr ⟨b, off, cap, rfl, h1, h2, fun j hj => ?_⟩
    have := h3 j hj
    rw [List.getElem?_eq_getElem hj] at this ⊢
    exact step_cell hs this
theorem OwnAt.slice' {B : Nat} {W : World} {e : TypeId} {v : Value} {vals : List Value} (h : OwnAt B W e v vals) : ∃ q n c, v = .slice q n c := by
  obtain ⟨q, c, hv, _⟩ := h.form
  exact ⟨q, _, c, hv⟩
/-- An append onto an empty slice that has no room: all of what can be read. -/
theorem wpList_onto {P : Program} (w : World) {ops : Array Oper} {rest : List Oper} {o : Oper} {a : Act} {Q : Exit → Act → World → Prop} (hgd : o.guard = none) (s x : Operand) (t : TypeId)
    (hop : o.op = Op.call { callee := Callee.builtin Builtin.append, args := #[s, x], argTypes := #[t, t] })
    (e : TypeId) (i : TypeInfo) (z : Value) (bytes : Nat) (h1 : P.underlying t = some (.slice e)) (h2 : P.info? e = some i) (h3 : i.zero = some z) (h4 : i.size = 1) (h5 : i.bytes = bytes) (h6 : z.cells.size = 1)
    (B g : Nat) (vals : List Value) (hs : a.eval s = .slice (some ⟨g, 0, none⟩) 0 0) (hg : w.heap[g]? = some (.cells #[] e (0, 0))) (hB : B ≤ g) (ad : Addr) (n c : Nat) (hx : a.eval x = .slice (some ad) n c) (hv : Reads w (.slice (some ad) n c) vals) (h1c : ∀ u ∈ vals, u.oneCell' = true)
    (hlen : vals.length < 1000000) (hbytes : bytes ≤ 1000)
    (hK : ∀ v' w', OwnAt B w' e v' vals → Step [] w w' → wpList P ops Q rest (a.put o.dst v') w') :
    wpList P ops Q (o :: rest) a w := by
  have hb2 : (0 + vals.length) * bytes ≤ 140737488355328 := Nat.le_trans (Nat.mul_le_mul (show 0 + vals.length ≤ 1000000 by omega) hbytes) (by omega)
  have hn : n = vals.length := by
    rcases hv with ⟨q, cap, h, rfl, _⟩ | ⟨b, off, cap, h, _⟩
    · cases h; rfl
    · cases h; rfl
  have hcells : ∀ j u, vals[j]? = some u → w.cell? (ad.add j) = some u := by
    intro j u hj
    rcases hv with ⟨q, cap, h, rfl, _⟩ | ⟨b, off, cap, h, _, _, hc⟩
    · simp at hj
    · cases h
      rw [add_plain', hc j (List.getElem?_eq_some_iff.1 hj).1, hj]
  subst hn
  refine wpList_append_arg w hgd s x t hop e i z 1 bytes h1 h2 h3 h4 h5 h6 (by omega) g 0 0 0 [] hs rfl (by simp) ad vals.length c vals hx (by omega) hcells h1c ?_ (by unfold maxLen; omega) hb2 ?_ ?_
  · intro hr j hj; omega
  · intro hr
    have hnil : vals = [] := List.eq_nil_of_length_eq_zero (by omega)
    subst hnil
    exact hK _ _ (.inr ⟨g, 0, 0, #[], rfl, hB, hg, Nat.le_refl _, by simp [maxLen], by simp, fun j hj => by simp at hj⟩) (Step.refl _ _)
  · intro hr v' w' ho hgr
    have hst : Step [] w w' := Step.grown hgr (fun j hj => by cases hj)
    have hlt := heap_lt hg
    refine hK v' w' ?_ hst
    have ho' : w'.ownsRow w.heap.size e 1 v' vals.length vals := by simpa using ho
    rcases OwnAt.ofRow ho' with h | ⟨g', off, cap, cur, hv', hb, rest⟩
    · exact .inl h
    · exact .inr ⟨g', off, cap, cur, hv', by omega, rest⟩

theorem info5 : (Try.prog.info? 5).map (fun i => (i.zero, i.size, i.bytes)) = some (some (.int .u8 0), 1, 1) := by kernel_rfl

set_option maxRecDepth 100000 in
theorem eqnil71 (w : World) : (binOp .eql 71 (.slice none 0 0) (.slice none 0 0)).run Try.prog w = .ok (.bool true) w := by kernel_rfl
set_option maxRecDepth 100000 in
theorem nenil71 (w : World) (ad : Addr) (n c : Nat) : (binOp .eql 71 (.slice (some ad) n c) (.slice none 0 0)).run Try.prog w = .ok (.bool false) w := by kernel_rfl
set_option maxRecDepth 100000 in
theorem clone_any (v : Value) (vals : List Value) (h1c : ∀ u ∈ vals, u.oneCell' = true) (hlen : vals.length < 1000000) (w : World) (h : Reads w v vals) :
    Calls Try.prog 93 #[v] w fun e w' => ∃ v', e = .returned v' ∧ OwnAt w.heap.size w' 5 v' vals ∧ Step [] w w' := by
  obtain ⟨i0, hi, hz0, hz1, hz2⟩ := info_parts info5
  obtain ⟨q, n, c, rfl⟩ : ∃ q n c, v = .slice q n c := by
    rcases h with ⟨q, cap, h, _⟩ | ⟨b, off, cap, h, _⟩
    · exact ⟨_, _, _, h⟩
    · exact ⟨_, _, _, h⟩
  have H := Lib.hid h
  have H1 := Lib.hid h1c
  have HL := Lib.hid hlen
  clear h h1c hlen
  cases q with
  | none =>
    have hv : n = 0 ∧ c = 0 ∧ vals = [] := by
      rcases H.out with ⟨q, cap, h, h2, h3, _⟩ | ⟨b, off, cap, h, _⟩
      · cases h; exact ⟨rfl, h3 rfl, h2⟩
      · cases h
    obtain ⟨rfl, rfl, rfl⟩ := hv
    have hE := eqnil71 w
    go_enter Try.func93, Try.ntmps93
    go_wp2
    go_ret
    exact ⟨_, rfl, ownAt_nil _ _ _, Step.refl _ _⟩
  | some ad =>
    have hE := nenil71 w ad n c
    go_enter Try.func93, Try.ntmps93
    go_wp2_with (at_builtin; refine wpList_onto _ rfl _ _ 71 rfl 5 i0 (.int .u8 0) 1 Try.underlying71 hi hz0 hz1 hz2 rfl w.heap.size w.heap.size vals rfl (by rw [heap_alloc_get, if_pos rfl]) (Nat.le_refl _) ad n c rfl (Reads.same H.out (Step.alloc _ _)) H1.out HL.out (by omega) ?_; intro v' w' hown hst; obtain ⟨qa, na, ca, rfl⟩ := hown.slice'; have HO := Lib.hid hown; have HS := Lib.hid hst; clear hown hst)
    go_ret
    exact ⟨_, rfl, HO.out, (Step.alloc _ _).trans HS.out⟩

set_option maxRecDepth 100000 in
theorem bytesClone_any (v : Value) (vals : List Value) (h1c : ∀ u ∈ vals, u.oneCell' = true) (hlen : vals.length < 1000000) (w : World) (h : Reads w v vals) :
    Calls Try.prog 71 #[v] w fun e w' => ∃ v', e = .returned v' ∧ OwnAt w.heap.size w' 5 v' vals ∧ Step [] w w' := by
  obtain ⟨i0, hi, hz0, hz1, hz2⟩ := info_parts info5
  obtain ⟨q, n, c, rfl⟩ : ∃ q n c, v = .slice q n c := by
    rcases h with ⟨q, cap, h, _⟩ | ⟨b, off, cap, h, _⟩
    · exact ⟨_, _, _, h⟩
    · exact ⟨_, _, _, h⟩
  have H := Lib.hid h
  have H1 := Lib.hid h1c
  have HL := Lib.hid hlen
  clear h h1c hlen
  cases q with
  | none =>
    have hv : n = 0 ∧ c = 0 ∧ vals = [] := by
      rcases H.out with ⟨q, cap, h, h2, h3, _⟩ | ⟨b, off, cap, h, _⟩
      · cases h; exact ⟨rfl, h3 rfl, h2⟩
      · cases h
    obtain ⟨rfl, rfl, rfl⟩ := hv
    have hE := eqnil71 w
    go_enter Try.func71, Try.ntmps71
    go_wp2
    go_ret
    exact ⟨_, rfl, ownAt_nil _ _ _, Step.refl _ _⟩
  | some ad =>
    have hE := nenil71 w ad n c
    go_enter Try.func71, Try.ntmps71
    go_wp2_with (at_builtin; refine wpList_onto _ rfl _ _ 71 rfl 5 i0 (.int .u8 0) 1 Try.underlying71 hi hz0 hz1 hz2 rfl w.heap.size w.heap.size vals rfl (by rw [heap_alloc_get, if_pos rfl]) (Nat.le_refl _) ad n c rfl (Reads.same H.out (Step.alloc _ _)) H1.out HL.out (by omega) ?_; intro v' w' hown hst; obtain ⟨qa, na, ca, rfl⟩ := hown.slice'; have HO := Lib.hid hown; have HS := Lib.hid hst; clear hown hst)
    go_ret
    exact ⟨_, rfl, HO.out, (Step.alloc _ _).trans HS.out⟩

def u8s (xs : List Nat) : List Value := xs.map fun (x : Nat) => .int .u8 (x : Int)
theorem u8s_length (xs : List Nat) : (u8s xs).length = xs.length := by simp [u8s]
theorem u8s_get (xs : List Nat) (i : Nat) : (u8s xs)[i]? = xs[i]?.map fun (x : Nat) => .int .u8 (x : Int) := by simp [u8s]
theorem u8s_one (xs : List Nat) : ∀ u ∈ u8s xs, u.oneCell' = true := by simp [u8s, Value.oneCell']
def strN (xs : List Nat) : ByteArray := ⟨(xs.map UInt8.ofNat).toArray⟩

theorem Reads.cellAt {W : World} {v : Value} {vals : List Value} (h : Reads W v vals) {j : Nat} {x : Value} (hx : vals[j]? = some x) : ∃ b off cap, v = .slice (some ⟨b, off, none⟩) vals.length cap ∧ vals.length ≤ cap ∧ cap ≤ maxLen ∧ W.cell? ⟨b, off + j, none⟩ = some x := by
  rcases h with ⟨q, cap, rfl, rfl, _⟩ | ⟨b, off, cap, rfl, h1, h2, h3⟩
  · simp at hx
  · exact ⟨b, off, cap, rfl, h1, h2, by rw [h3 j (List.getElem?_eq_some_iff.1 hx).1, hx]⟩
theorem Reads.form {W : World} {v : Value} {vals : List Value} (h : Reads W v vals) : ∃ q cap, v = .slice q vals.length cap ∧ vals.length ≤ cap ∧ cap ≤ maxLen := by
  rcases h with ⟨q, cap, rfl, rfl, _, h⟩ | ⟨b, off, cap, rfl, h1, h2, h3⟩
  · exact ⟨q, cap, rfl, Nat.zero_le _, h⟩
  · exact ⟨_, cap, rfl, h1, h2⟩
theorem Reads.take {W : World} {q : Option Addr} {n cap : Nat} {vals : List Value} (h : Reads W (.slice q n cap) vals) (m : Nat) (hm : m ≤ n) (hq : q = none → cap = 0) : Reads W (.slice q m cap) (vals.take m) := by
  rcases h with ⟨q', cap', he, rfl, h1, h2⟩ | ⟨b, off, cap', he, h1, h2, h3⟩
  · cases he
    obtain rfl : m = 0 := by omega
    exact .inl ⟨q, cap, rfl, by simp, h1, h2⟩
  · cases he
    refine .inr ⟨b, off, cap, by rw [List.length_take, Nat.min_eq_left hm], by rw [List.length_take]; omega, h2, fun j hj => ?_⟩
    rw [List.length_take] at hj
    rw [h3 j (by omega), List.getElem?_take, if_pos (by omega)]

/-- string(b). -/
theorem back_all (W : World) (v : Value) (xs : List Nat) (hx : ∀ x ∈ xs, x < 256) (h : Reads W v (u8s xs)) : (convert 71 9 v).run Try.prog W = .ok (.string (strN xs)) W := by
  rcases h with ⟨q, cap, rfl, h0, _⟩ | ⟨b, off, cap, rfl, h1, h2, h3⟩
  · obtain rfl : xs = [] := by simpa [u8s] using h0
    cases q with
    | none => exact run_convert_bytes_nil W 71 5 Try.underlying71 Try.underlying5 0 cap 9 Try.underlying9
    | some a => exact run_convert_bytes_back W 71 9 5 a cap [] Try.underlying71 Try.underlying5 Try.underlying9 (fun j hj => by simp at hj)
  · have := run_convert_bytes_back W 71 9 5 ⟨b, off, none⟩ cap (xs.map UInt8.ofNat) Try.underlying71 Try.underlying5 Try.underlying9 (fun j hj => by
      rw [List.length_map] at hj
      have h4 := h3 j (by rw [u8s_length]; exact hj)
      rw [add_plain', h4, u8s_get, List.getElem?_eq_getElem hj]
      simp [Nat.mod_eq_of_lt (hx _ (List.getElem_mem hj))])
    rw [List.length_map] at this
    rw [u8s_length]
    exact this


/-- bytes.Equal of what is alike. -/
theorem equalB_any (v v' : Value) (xs : List Nat) (hx : ∀ x ∈ xs, x < 256) (w : World) (h : Reads w v (u8s xs)) (h' : Reads w v' (u8s xs)) :
    Calls Try.prog 78 #[v, v'] w fun e w' => e = .returned (.bool true) ∧ w = w' := by
  have c1 := back_all w v xs hx h
  have c2 := back_all w v' xs hx h'
  clear h h'
  generalize strN xs = s at c1 c2
  have he : (binOp .eql 9 (.string s) (.string s)).run Try.prog w = .ok (.bool true) w := by
    rw [binOp_string_eql, beq_self_eq_true]; rfl
  go_enter Try.func78, Try.ntmps78
  go_wp2
  go_ret
  exact ⟨rfl, rfl⟩
end Go.Proofs.Ytbainekfbonbjaa
