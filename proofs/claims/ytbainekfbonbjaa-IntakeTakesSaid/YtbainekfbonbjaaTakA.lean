/- IntakeTakes: what the reference holds; find, Bytes. No statement is proved here; nothing is assumed. -/
import Derived.Test.YtbainekfbonbjaaOrdB
namespace Go.Proofs.Ytbainekfbonbjaa
open Go.RowKit Go.Shelf Go.Maps
set_option linter.unusedVariables false
set_option linter.unusedSimpArgs false
attribute [local go_sem] Oper.semAt_some

/-- The cells of numbered values that lie side by side. -/
def flat (K : Ents) : List Value := K.flatMap fun p => [.int .u32 (p.1 : Int), p.2]
theorem flat_len (K : Ents) : (flat K).length = K.length * 2 := by
  induction K with
  | nil => rfl
  | cons p t ih => simp [flat] at ih ⊢; omega
theorem flat_at : ∀ (K : Ents) (j k : Nat) (v : Value), K[j]? = some (k, v) → (flat K)[j * 2]? = some (.int .u32 (k : Int)) ∧ (flat K)[j * 2 + 1]? = some v
  | [], j, k, v, h => by simp at h
  | p :: t, 0, k, v, h => by
    simp at h
    subst h
    exact ⟨rfl, rfl⟩
  | p :: t, j + 1, k, v, h => by
    have ih := flat_at t j k v (by simpa using h)
    have e : flat (p :: t) = .int .u32 (p.1 : Int) :: p.2 :: flat t := rfl
    rw [e, show (j + 1) * 2 = j * 2 + 1 + 1 by omega, show j * 2 + 1 + 1 + 1 = (j * 2 + 1) + 1 + 1 by omega]
    simp only [List.getElem?_cons_succ]
    exact ih
theorem row_cell {W : World} {B size n i : Nat} {e : TypeId} {v x : Value} {xs : List Value} (h : W.ownsRow B e size v n xs) (hx : xs[i]? = some x) :
    ∃ g cap, v = .slice (some ⟨g, 0, none⟩) n cap ∧ n ≤ cap ∧ cap ≤ maxLen ∧ W.cell? ⟨g, i, none⟩ = some x ∧ W.frozen? ⟨g, i, none⟩ = false := by
  obtain ⟨hl, ⟨rfl, rfl⟩ | ⟨g, cap, cur, rfl, hb, hg, h1, h2, h3, h4⟩⟩ := h
  · have h0 : xs = [] := List.eq_nil_of_length_eq_zero (by simpa using hl)
    rw [h0] at hx; simp at hx
  · refine ⟨g, cap, rfl, h1, h2, cells_cell hg ?_, cells_frozen hg⟩
    have hi := (List.getElem?_eq_some_iff.1 hx).1
    rw [← h4, List.getElem?_take, if_pos (by omega)] at hx
    simpa using hx

/-- The reference's intake: its floor F, its row sv of K, which keeps what f says. -/
structure RefM (B : Nat) (W : World) (br F : Nat) (sv : Value) (K : Ents) (f : Kept7) : Prop where
  o : W.heap[br]? = some (.cells #[.int .u32 (F : Int), sv] 112)
  lo : B ≤ br
  row : W.ownsRow B 148 2 sv K.length (flat K)
  r : RepK (PayAt B W) K f
section
variable {B : Nat} {W W' : World} {br F : Nat} {sv : Value} {K : Ents} {f : Kept7}
theorem RefM.same (h : RefM B W br F sv K f) (hs : Step [] W W') : RefM B W' br F sv K f :=
  ⟨obj_step h.o hs (by simp), h.lo, row_step h.row hs (by simp), ⟨h.r.nd, fun k x hx => by obtain ⟨p, h1, h2⟩ := h.r.to k x hx; exact ⟨p, h1, h2.same hs⟩, h.r.fro⟩⟩
theorem RefM.cells (h : RefM B W br F sv K f) : W.cell? ⟨br, 0, none⟩ = some (.int .u32 (F : Int)) ∧ W.cell? ⟨br, 1, none⟩ = some sv ∧ W.frozen? ⟨br, 0, none⟩ = false ∧ W.frozen? ⟨br, 1, none⟩ = false :=
  ⟨cells_cell h.o rfl, cells_cell h.o rfl, cells_frozen h.o, cells_frozen h.o⟩
theorem RefM.form (h : RefM B W br F sv K f) : ∃ ao cap, sv = .slice ao K.length cap ∧ K.length ≤ cap ∧ cap ≤ maxLen := by
  rcases h.row.2 with ⟨h1, h2⟩ | ⟨g, cap, cur, h1, _, _, h3, h4, _⟩
  · exact ⟨none, 0, by rw [h1, h2], by omega, by simp [maxLen]⟩
  · exact ⟨_, cap, h1, h3, h4⟩
theorem RefM.at (h : RefM B W br F sv K f) {j k : Nat} {v : Value} (hj : K[j]? = some (k, v)) : ∃ g cap, sv = .slice (some ⟨g, 0, none⟩) K.length cap ∧ K.length ≤ cap ∧ cap ≤ maxLen ∧ W.cell? ⟨g, j * 2, none⟩ = some (.int .u32 (k : Int)) ∧ W.cell? ⟨g, j * 2 + 1, none⟩ = some v := by
  obtain ⟨h1, h2⟩ := flat_at K j k v hj
  obtain ⟨g, cap, e1, e2, e3, e4, _⟩ := row_cell h.row h1
  obtain ⟨g', cap', e1', _, _, e4', _⟩ := row_cell h.row h2
  rw [e1] at e1'
  injection e1' with q1 q2 q3
  injection q1 with q1
  injection q1 with q1
  subst q1
  exact ⟨g, cap, e1, e2, e3, e4, e4'⟩
end
set_option maxRecDepth 100000 in
set_option maxHeartbeats 2000000 in
theorem find_any (B br F : Nat) (sv : Value) (K : Ents) (f : Kept7) (n : Nat) (hK : K.length ≤ 1000) (w : World) (h : RefM B w br F sv K f) :
    Calls Try.prog 104 #[.pointer (some ⟨br, 0, none⟩), .int .u32 (n : Int)] w fun e w' => w = w' ∧ ∃ r : Int, e = .returned (.int .i64 r) ∧ ((r = -1 ∧ f n = none) ∨ ∃ (j : Nat) (v : Value), r = (j : Int) ∧ K[j]? = some (n, v)) := by
  obtain ⟨ao, cap, hsv, hcap, hcm⟩ := h.form
  subst hsv
  obtain ⟨c0, c1, _⟩ := h.cells
  obtain ⟨L, hL⟩ : ∃ L, L = K.length := ⟨_, rfl⟩
  rw [← hL] at c1 hcap hK
  have H := Lib.hid (And.intro h hL)
  have hcm2 : cap ≤ 9223372036854775807 := by unfold maxLen at hcm; omega
  clear h hL hcm
  go_enter Try.func104, Try.ntmps104
  go_wp2_with fail
  go_loopw [5] (fun i wr => ∃ j : Nat, j ≤ L ∧ i = .int .i64 (j : Int) ∧ w = wr ∧ Hid (∀ i, i < j → ∀ k v, K[i]? = some (k, v) → k ≠ n)) (fun i wr => L - (intOf i).toNat)
  case atStart => exact ⟨0, by omega, rfl, rfl, fun i hi => by omega⟩
  case round =>
    obtain ⟨j, hj, rfl, rfl, hI⟩ := hrel
    by_cases hlt : j < L
    · have s1 : ((j : Int) < (L : Int)) = True := by simp; omega
      obtain ⟨⟨k, v⟩, hkv⟩ : ∃ p, K[j]? = some p := ⟨_, List.getElem?_eq_getElem (by rw [← H.out.2]; exact hlt)⟩
      obtain ⟨g, cap', e1, e2, e3, e4, e5⟩ := H.out.1.at hkv
      rw [← H.out.2] at e1
      injection e1 with e1 e6 e7
      subst e1
      subst e7
      have HKV := Lib.hid hkv
      have hjc : (j : Int) < (L : Int) := by omega
      have hw2 : IntKind.i64.wrap ((j : Int) + 1) = ((j : Int) + 1) := by rw [IntKind.wrap_i64]; omega
      clear hkv e2 e3 e5 e6
      by_cases he : k = n
      · subst he
        have s2 : ((k : Int) == (k : Int)) = true := by simp
        go_wp2_with fail
        go_ret
        exact ⟨rfl, _, rfl, .inr ⟨j, v, rfl, HKV.out⟩⟩
      · have s2 : ((k : Int) == (n : Int)) = false := by simp; omega
        have HE := Lib.hid he
        clear he
        go_wp2_with fail
        go_roundw
        case rel =>
          refine ⟨j + 1, by omega, by go_num, trivial, fun i hi k' v' hk' => ?_⟩
          by_cases e : i = j
          · subst e
            rw [HKV.out] at hk'
            cases hk'
            exact HE.out
          · exact hI.out i (by omega) k' v' hk'
        case measure => simp [intOf]; omega
    · have hjL : j = L := by omega
      have s1 : ((j : Int) < (L : Int)) = False := by simp; omega
      have HF := Lib.hid (show f n = none by
        cases e : f n with
        | none => rfl
        | some p =>
          obtain ⟨v, hv⟩ := H.out.1.r.fro n p e
          obtain ⟨i, hi⟩ := List.mem_iff_getElem?.1 hv
          exact absurd rfl (hI.out i (by have := (List.getElem?_eq_some_iff.1 hi).1; have := H.out.2; omega) n v hi))
      clear hjL
      go_wp2_with fail
      go_ret
      exact ⟨rfl, _, rfl, .inl ⟨rfl, HF.out⟩⟩
end Go.Proofs.Ytbainekfbonbjaa
