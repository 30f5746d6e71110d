/- The reference's net: contracts of own, without, Row, set, stands. No statement is proved here; nothing is assumed. -/
import Derived.Test.YtnomnhlfenhjdaaNetX
import Derived.Laws.AppendOwnNone
import Derived.OwnWalkIn
import Derived.TacticsInMore
import Derived.LoopNIn
import Derived.LoopIn
import Derived.Deep.QuietTactic
import Derived.BigQuiet
import Derived.Maps.OwnIn
namespace Go.Proofs.Ytnomnhlfenhjdaa
open Go.RowKit Go.Shelf
set_option linter.unusedVariables false
set_option linter.unusedSimpArgs false
attribute [local go_sem] Oper.semAt_some

/-- All that can be read, onto a slice of the call's own. -/
theorem wpList_more {P : Program} (w : World) {ops : Array Oper} {rest : List Oper} {o : Oper} {a : Act} {Q : Exit → Act → World → Prop} (hgd : o.guard = none) (s x : Operand) (t : TypeId)
    (hop : o.op = Op.call { callee := Callee.builtin Builtin.append, args := #[s, x], argTypes := #[t, t] })
    (e : TypeId) (i : TypeInfo) (z : Value) (bytes : Nat) (h1 : P.underlying t = some (.slice e)) (h2 : P.info? e = some i) (h3 : i.zero = some z) (h4 : i.size = 1) (h5 : i.bytes = bytes) (h6 : z.cells.size = 1)
    (base : Nat) (v sv : Value) (n : Nat) (xs vals : List Value) (hs : a.eval s = v) (hown : w.ownsRow base e 1 v n xs) (he : heldType e = false) (hx : a.eval x = sv) (hv : Reads w sv vals) (h1c : ∀ u ∈ vals, u.oneCell' = true)
    (hlen : n + vals.length < 1000000) (hbytes : bytes ≤ 1000) (hB : base ≤ w.heap.size)
    (hK : ∀ v' w', w'.ownsRow base e 1 v' (n + vals.length) (xs ++ vals) → Step v.ownBlock.toList w w' → wpList P ops Q rest (a.put o.dst v') w') :
    wpList P ops Q (o :: rest) a w := by
  have hb2 : (n + vals.length) * bytes ≤ 140737488355328 := Nat.le_trans (Nat.mul_le_mul (show n + vals.length ≤ 1000000 by omega) hbytes) (by omega)
  rcases hv with ⟨q, cap, rfl, rfl, hq, hcm⟩ | ⟨b, off, cap, rfl, hl, hm, hc⟩
  · cases q with
    | none =>
      obtain rfl : cap = 0 := hq rfl
      refine wpList_append_own_none hgd s x t hop base e i 1 h1 h2 v n xs hs hown hx ?_
      exact hK v w (by simpa using hown) (Step.refl _ _)
    | some ad =>
      refine wpList_append_own w hgd s x t hop base e i z 1 bytes h1 h2 h3 h4 h5 h6 (by omega) v n xs hs hown ad 0 cap [] hx (by simp) (by simp) (by simp) (by unfold maxLen; omega) (by simpa using hb2) hB ?_
      intro v' w' ho hg _
      exact hK v' w' (by simpa using ho) (Step.grown hg (fun j hj => ⟨.inl (by simp [hj]), fun o ho => by
        rcases hown.2 with ⟨rfl, _⟩ | ⟨g, cap, cur, rfl, _, hgb, _⟩
        · cases hj
        · cases hj; rw [hgb] at ho; cases ho; exact he⟩))
  · refine wpList_append_own w hgd s x t hop base e i z 1 bytes h1 h2 h3 h4 h5 h6 (by omega) v n xs hs hown ⟨b, off, none⟩ vals.length cap vals hx (by simp) (fun j u hj => ?_) h1c (by unfold maxLen; omega) hb2 hB ?_
    · rw [add_plain', hc j (List.getElem?_eq_some_iff.1 hj).1, hj]
    · intro v' w' ho hg _
      exact hK v' w' ho (Step.grown hg (fun j hj => ⟨.inl (by simp [hj]), fun o ho => by
        rcases hown.2 with ⟨rfl, _⟩ | ⟨g, cap, cur, rfl, _, hgb, _⟩
        · cases hj
        · cases hj; rw [hgb] at ho; cases ho; exact he⟩))

set_option maxRecDepth 100000 in
theorem own_any (v : Value) (vals : List Value) (h1c : ∀ u ∈ vals, u.oneCell' = true) (hlen : vals.length < 1000000) (w : World) (h : Reads w v vals) :
    Calls Try.prog 59 #[v] w fun e w' => ∃ v', e = .returned v' ∧ OwnAt w.heap.size w' 5 v' vals ∧ Step [] w w' := by
  obtain ⟨i0, hi, hz0, hz1, hz2⟩ := info_parts info5
  obtain ⟨q, n, c, rfl⟩ : ∃ q n c, v = .slice q n c := by
    rcases h with ⟨q, cap, h, _⟩ | ⟨b, off, cap, h, _⟩
    · exact ⟨_, _, _, h⟩
    · exact ⟨_, _, _, h⟩
  have H := Lib.hid h
  have H1 := Lib.hid h1c
  have HL := Lib.hid hlen
  clear h h1c hlen
  go_enter Try.func59, Try.ntmps59
  go_wp2_with (at_builtin; refine wpList_more _ rfl _ _ 68 rfl 5 i0 (.int .u8 0) 1 Try.underlying68 hi hz0 hz1 hz2 rfl w.heap.size (.slice none 0 0) (.slice q n c) 0 [] vals rfl (World.ownsRow_nil _ _ _ _) rfl rfl H.out H1.out (by have := HL.out; omega) (by omega) (Nat.le_refl _) ?_; intro v' w' hown hst; obtain ⟨qa, na, ca, rfl⟩ := (OwnAt.ofRow hown).slice'; have HO := Lib.hid hown; have HS := Lib.hid hst; clear hown hst)
  go_ret
  exact ⟨_, rfl, OwnAt.ofRow (by simpa using HO.out), HS.out⟩

/-- A part of what can be read. -/
theorem OwnAt.part {B : Nat} {W : World} {e : TypeId} {q : Option Addr} {n c : Nat} {vals : List Value} (h : OwnAt B W e (.slice q n c) vals) (m : Nat) (hm : m ≤ n) : Reads W (.slice q m c) (vals.take m) := by
  rcases h with ⟨h, rfl⟩ | ⟨g, off, cap, cur, h, hb, hg, h1, h2, h3, h4⟩
  · cases h
    exact .inl ⟨none, 0, by simp; omega, by simp, fun _ => rfl, by simp [maxLen]⟩
  · cases h
    refine .inr ⟨g, off, c, by rw [List.length_take, Nat.min_eq_left hm], by rw [List.length_take]; omega, h2, fun j hj => ?_⟩
    rw [List.length_take] at hj
    rw [List.getElem?_take, if_pos (by omega), ← h4 j (by omega)]
    simp [World.cell?, hg]
theorem OwnAt.rest' {B : Nat} {W : World} {e : TypeId} {g off n c : Nat} {vals : List Value} (h : OwnAt B W e (.slice (some ⟨g, off, none⟩) n c) vals) (m : Nat) (hm : m ≤ n) : Reads W (.slice (some ⟨g, off + m, none⟩) (n - m) (c - m)) (vals.drop m) := by
  rcases h with ⟨h, rfl⟩ | ⟨g', off', cap, cur, h, hb, hg, h1, h2, h3, h4⟩
  · cases h
  · cases h
    refine .inr ⟨g, off + m, c - m, by rw [List.length_drop], by rw [List.length_drop]; omega, by omega, fun j hj => ?_⟩
    rw [List.length_drop] at hj
    rw [List.getElem?_drop, ← h4 (m + j) (by omega), show off + m + j = off + (m + j) by omega]
    simp [World.cell?, hg]

set_option maxRecDepth 100000 in
set_option maxHeartbeats 1000000 in
theorem without_any (B : Nat) (v : Value) (es : List Sl) (i : Nat) (hi : i < es.length) (hlen : es.length < 1000) (w : World) (h : OwnAt B w 68 v (es.map encS)) :
    Calls Try.prog 57 #[v, .int .i64 (i : Int)] w fun e w' => ∃ v', e = .returned v' ∧ OwnAt w.heap.size w' 68 v' ((es.eraseIdx i).map encS) ∧ Step [] w w' := by
  obtain ⟨i0, hi0, hz0, hz1, hz2⟩ := info_parts info68
  obtain ⟨g, off, cap, hv, hl, hm, _⟩ := h.at (j := i) (x := encS es[i]) (by simp [hi])
  rw [List.length_map] at hv hl
  subst hv
  obtain ⟨L, hL⟩ : ∃ L, L = es.length := ⟨_, rfl⟩
  rw [← hL] at h hl hi hlen ⊢
  have H := Lib.hid h
  have HL := Lib.hid hL
  have h1c : ∀ (l : List Sl), ∀ u ∈ l.map encS, u.oneCell' = true := fun l u hu => by obtain ⟨s, _, rfl⟩ := List.mem_map.1 hu; rfl
  have H1 := Lib.hid h1c
  have hcm : cap ≤ 9223372036854775807 := by unfold maxLen at hm; omega
  have hiL : (i : Int) < (L : Int) := by omega
  have hi1 : i + 1 ≤ L := hi
  have HE := Lib.hid (show (es.take i).map encS ++ (es.drop (i + 1)).map encS = (es.eraseIdx i).map encS by rw [← List.map_append, ← List.eraseIdx_eq_take_drop_succ])
  have HT := Lib.hid (show ((es.map encS).take i) = (es.take i).map encS ∧ ((es.map encS).drop (i + 1)) = (es.drop (i + 1)).map encS by simp [List.map_take, List.map_drop])
  clear h hL h1c hm
  by_cases hcap : cap = i + 1
  · subst hcap
    go_enter Try.func57, Try.ntmps57
    go_wp2_with (first
      | (at_builtin; refine wpList_more _ rfl (.tmp 6) (.tmp 9) 90 rfl 68 i0 (.slice none 0 0) 24 Try.underlying90 hi0 hz0 hz1 hz2 rfl w.heap.size (.slice none 0 0) (.slice (some ⟨g, off, none⟩) i (i + 1)) 0 [] ((es.take i).map encS) rfl (World.ownsRow_nil _ _ _ _) rfl rfl (by rw [← HT.out.1]; exact H.out.part i (by omega)) (H1.out _) (by simp; omega) (by omega) (Nat.le_refl _) ?_; intro v' w1 hown hst; obtain ⟨qa, na, ca, rfl⟩ := (OwnAt.ofRow hown).slice'; have HO := Lib.hid hown; have HS := Lib.hid hst; clear hown hst)
      | (at_builtin; refine wpList_more _ rfl (.tmp 11) (.tmp 15) 90 rfl 68 i0 (.slice none 0 0) 24 Try.underlying90 hi0 hz0 hz1 hz2 rfl w.heap.size (.slice qa na ca) (.slice (some ⟨g, off, none⟩) 0 0) _ _ ((es.drop (i + 1)).map encS) rfl HO.out rfl rfl (.inl ⟨some ⟨g, off, none⟩, 0, rfl, by rw [List.drop_eq_nil_of_le (by have := HL.out; omega)]; rfl, (fun h => by cases h), by simp [maxLen]⟩) (H1.out _) (by have := HL.out; simp; omega) (by omega) HS.out.size ?_; intro v' w2 hown hst; obtain ⟨qb, nb, cb, rfl⟩ := (OwnAt.ofRow hown).slice'; have HO2 := Lib.hid hown; have HS2 := Lib.hid hst; clear hown hst))
    go_ret
    have hO := OwnAt.ofRow HO2.out
    have hst : Step [] w w2 := by
      have h1 : Step [] w w1 := HS.out
      have h2 := HS2.out
      refine h1.trans' h2 (fun i hi _ => hi) (fun i hi hlt => ?_)
      simp at hi
      have := ((OwnAt.ofRow HO.out).block hi).1
      omega
    exact ⟨_, rfl, by have := hO; rw [show [] ++ (es.take i).map encS ++ (es.drop (i + 1)).map encS = (es.eraseIdx i).map encS by rw [List.nil_append]; exact HE.out] at this; exact this, hst⟩
  · go_enter Try.func57, Try.ntmps57
    go_wp2_with (first
      | (at_builtin; refine wpList_more _ rfl (.tmp 6) (.tmp 9) 90 rfl 68 i0 (.slice none 0 0) 24 Try.underlying90 hi0 hz0 hz1 hz2 rfl w.heap.size (.slice none 0 0) (.slice (some ⟨g, off, none⟩) i cap) 0 [] ((es.take i).map encS) rfl (World.ownsRow_nil _ _ _ _) rfl rfl (by rw [← HT.out.1]; exact H.out.part i (by omega)) (H1.out _) (by simp; omega) (by omega) (Nat.le_refl _) ?_; intro v' w1 hown hst; obtain ⟨qa, na, ca, rfl⟩ := (OwnAt.ofRow hown).slice'; have HO := Lib.hid hown; have HS := Lib.hid hst; clear hown hst)
      | (at_builtin; refine wpList_more _ rfl (.tmp 11) (.tmp 15) 90 rfl 68 i0 (.slice none 0 0) 24 Try.underlying90 hi0 hz0 hz1 hz2 rfl w.heap.size (.slice qa na ca) (.slice (some ⟨g, off + (i + 1), none⟩) (L - (i + 1)) (cap - (i + 1))) _ _ ((es.drop (i + 1)).map encS) rfl HO.out rfl rfl (by rw [← HT.out.2]; exact (H.out.rest' (i + 1) (by omega)).same HS.out) (H1.out _) (by have := HL.out; simp; omega) (by omega) HS.out.size ?_; intro v' w2 hown hst; obtain ⟨qb, nb, cb, rfl⟩ := (OwnAt.ofRow hown).slice'; have HO2 := Lib.hid hown; have HS2 := Lib.hid hst; clear hown hst))
    go_ret
    have hO := OwnAt.ofRow HO2.out
    have hst : Step [] w w2 := by
      have h1 : Step [] w w1 := HS.out
      have h2 := HS2.out
      refine h1.trans' h2 (fun i hi _ => hi) (fun i hi hlt => ?_)
      simp at hi
      have := ((OwnAt.ofRow HO.out).block hi).1
      omega
    exact ⟨_, rfl, by have := hO; rw [show [] ++ (es.take i).map encS ++ (es.drop (i + 1)).map encS = (es.eraseIdx i).map encS by rw [List.nil_append]; exact HE.out] at this; exact this, hst⟩

theorem row_ok (rb way : Nat) (r0 r1 : Value) (hw : way < 2) (w : World) (h : RefObj w rb r0 r1) : Calls Try.prog 39 #[.pointer (some ⟨rb, 0, none⟩), .int .i64 (way : Int)] w fun e w' => e = .returned (rowOf way r0 r1) ∧ w = w' := by
  obtain ⟨c0, c1, _, _⟩ := ref_cells h
  clear h
  have hcase : way = 0 ∨ way = 1 := by omega
  rcases hcase with rfl | rfl
  · show Calls Try.prog 39 #[.pointer (some ⟨rb, 0, none⟩), .int .i64 0] w _
    go_enter Try.func39, Try.ntmps39
    go_wp2
    go_ret
    exact ⟨rfl, rfl⟩
  · show Calls Try.prog 39 #[.pointer (some ⟨rb, 0, none⟩), .int .i64 1] w _
    go_enter Try.func39, Try.ntmps39
    go_wp2
    go_ret
    exact ⟨rfl, rfl⟩
theorem row_no (p : Option Addr) (way : Int) (hw : way < 0 ∨ 2 ≤ way) (w : World) : Calls Try.prog 39 #[.pointer p, .int .i64 way] w fun e w' => e = .returned (.slice none 0 0) ∧ w = w' := by
  have e0 : (way == 0) = false := by simp; omega
  have e1 : (way == 1) = false := by simp; omega
  clear hw
  go_enter Try.func39, Try.ntmps39
  go_wp2
  go_ret
  exact ⟨rfl, rfl⟩
theorem set_ok (rb way : Nat) (r0 r1 : Value) (hw : way < 2) (q : Option Addr) (n c : Nat) (w : World) (h : RefObj w rb r0 r1) : Calls Try.prog 58 #[.pointer (some ⟨rb, 0, none⟩), .int .i64 (way : Int), .slice q n c] w fun e w' => (∃ v, e = .returned v) ∧ w.setCell ⟨rb, way, none⟩ (.slice q n c) = w' := by
  obtain ⟨c0, c1, f0, f1⟩ := ref_cells h
  clear h
  have hcase : way = 0 ∨ way = 1 := by omega
  rcases hcase with rfl | rfl
  · show Calls Try.prog 58 #[.pointer (some ⟨rb, 0, none⟩), .int .i64 0, _] w _
    go_enter Try.func58, Try.ntmps58
    go_wp2
    go_end0
    exact ⟨⟨_, rfl⟩, rfl⟩
  · show Calls Try.prog 58 #[.pointer (some ⟨rb, 0, none⟩), .int .i64 1, _] w _
    go_enter Try.func58, Try.ntmps58
    go_wp2
    go_end0
    exact ⟨⟨_, rfl⟩, rfl⟩
theorem stands_way (p : Option Addr) (way i : Int) (hw : way < 0 ∨ 2 ≤ way) (w : World) : Calls Try.prog 60 #[.pointer p, .int .i64 way, .int .i64 i] w fun e w' => e = .returned (.int .i64 1) ∧ w = w' := by
  by_cases h1 : way < 0
  · have e1 : (way < 0) = True := by simp; omega
    clear hw h1
    go_enter Try.func60, Try.ntmps60
    go_wp2
    go_ret
    exact ⟨rfl, rfl⟩
  · have e1 : (way < 0) = False := by simp; omega
    have e2 : ((1 : Int) < way) = True := by simp; omega
    clear hw h1
    go_enter Try.func60, Try.ntmps60
    go_wp2
    go_ret
    exact ⟨rfl, rfl⟩
theorem stands_out (rb way : Nat) (i : Int) (r0 r1 : Value) (q : Option Addr) (n cap : Nat) (hw : way < 2) (hr : rowOf way r0 r1 = .slice q n cap) (hi : i < 0 ∨ (n : Int) ≤ i) (w : World) (h : RefObj w rb r0 r1) : Calls Try.prog 60 #[.pointer (some ⟨rb, 0, none⟩), .int .i64 (way : Int), .int .i64 i] w fun e w' => e = .returned (.int .i64 6) ∧ w = w' := by
  have e1 : ((way : Int) < 0) = False := by simp
  have e2 : ((1 : Int) < (way : Int)) = False := by simp; omega
  have hrow := row_ok rb way r0 r1 hw w h
  rw [hr] at hrow
  have HR := Lib.hid hrow
  clear h hr hw hrow
  by_cases h1 : i < 0
  · have e3 : (i < 0) = True := by simp; omega
    clear hi h1
    go_enter Try.func60, Try.ntmps60
    go_wp2
    go_ret
    exact ⟨rfl, rfl⟩
  · have e3 : (i < 0) = False := by simp; omega
    have e4 : ((n : Int) ≤ i) = True := by simp; omega
    clear hi h1
    go_enter Try.func60, Try.ntmps60
    go_wp2_with (go_at_call 39; refine HR.out.mono ?_; rintro e w' ⟨rfl, rfl⟩)
    go_ret
    exact ⟨rfl, rfl⟩
theorem stands_ok (rb way i : Nat) (r0 r1 : Value) (q : Option Addr) (n cap : Nat) (hw : way < 2) (hr : rowOf way r0 r1 = .slice q n cap) (hi : i < n) (w : World) (h : RefObj w rb r0 r1) : Calls Try.prog 60 #[.pointer (some ⟨rb, 0, none⟩), .int .i64 (way : Int), .int .i64 (i : Int)] w fun e w' => e = .returned (.int .i64 0) ∧ w = w' := by
  have e1 : ((way : Int) < 0) = False := by simp
  have e2 : ((1 : Int) < (way : Int)) = False := by simp; omega
  have hrow := row_ok rb way r0 r1 hw w h
  rw [hr] at hrow
  have HR := Lib.hid hrow
  have e3 : ((i : Int) < 0) = False := by simp
  have e4 : ((n : Int) ≤ (i : Int)) = False := by simp; omega
  clear h hr hw hrow hi
  go_enter Try.func60, Try.ntmps60
  go_wp2_with (go_at_call 39; refine HR.out.mono ?_; rintro e w' ⟨rfl, rfl⟩)
  go_ret
  exact ⟨rfl, rfl⟩
end Go.Proofs.Ytnomnhlfenhjdaa
