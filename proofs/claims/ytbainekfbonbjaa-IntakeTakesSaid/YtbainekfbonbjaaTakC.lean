/- IntakeTakes: the reference's Take, where it refuses; laws for its row. No statement is proved here; nothing is assumed. -/
import Derived.Test.YtbainekfbonbjaaTakB
namespace Go.Proofs.Ytbainekfbonbjaa
open Go.RowKit Go.Shelf Go.Maps
set_option linter.unusedVariables false
set_option linter.unusedSimpArgs false
attribute [local go_sem] Oper.semAt_some

section
variable (B br F : Nat) (sv : Value) (K : Ents) (f : Kept7) (q : Option Addr) (len cap n : Nat) (w : World)
theorem refTake_long (hl : 256 < len) : Calls Try.prog 72 #[.pointer (some ⟨br, 0, none⟩), .int .u32 (n : Int), .slice q len cap] w fun e w' => e = .returned (.tuple #[.slice none 0 0, .int .i64 0, .int .i64 3]) ∧ w = w' := by
  have h1 : ((256 : Int) < (len : Int)) = True := by simp; omega
  clear hl
  go_enter Try.func72, Try.ntmps72
  go_wp2
  go_ret3
  exact ⟨rfl, rfl⟩
theorem refTake_again (h : RefM B w br F sv K f) (hK : K.length ≤ 1000) (hl : len ≤ 256) (ha : n < F ∨ (f n).isSome = true) : Calls Try.prog 72 #[.pointer (some ⟨br, 0, none⟩), .int .u32 (n : Int), .slice q len cap] w fun e w' => e = .returned (.tuple #[.slice none 0 0, .int .i64 2, .int .i64 0]) ∧ w = w' := by
  obtain ⟨c0, c1, _⟩ := h.cells
  have h1 : ((256 : Int) < (len : Int)) = False := by simp; omega
  have HF := Lib.hid (find_any B br F sv K f n hK w h)
  by_cases hlt : n < F
  · have h2 : ((n : Int) < (F : Int)) = True := by simp; omega
    clear h hl ha hlt hK
    go_enter Try.func72, Try.ntmps72
    go_wp2_with fail
    go_ret3
    exact ⟨rfl, rfl⟩
  · have h2 : ((n : Int) < (F : Int)) = False := by simp; omega
    have HA := Lib.hid (show (f n).isSome = true by rcases ha with h | h; omega; exact h)
    clear h hl ha hlt hK
    go_enter Try.func72, Try.ntmps72
    go_wp2_with fail
    refine HF.out.mono ?_
    rintro e w' ⟨rfl, r, rfl, hr⟩
    have h3 : ((0 : Int) ≤ r) = True := by
      rcases hr with ⟨_, hn⟩ | ⟨j, v, rfl, _⟩
      · have := HA.out; rw [hn] at this; cases this
      · simp
    clear hr
    go_wp2_with fail
    go_ret3
    exact ⟨rfl, rfl⟩
theorem refTake_far (h : RefM B w br F sv K f) (hK : K.length ≤ 1000) (hl : len ≤ 256) (hn : n < 4294967296) (hF : F < 4294967296) (ha : F + 16 ≤ n) (hf : f n = none) : Calls Try.prog 72 #[.pointer (some ⟨br, 0, none⟩), .int .u32 (n : Int), .slice q len cap] w fun e w' => e = .returned (.tuple #[.slice none 0 0, .int .i64 3, .int .i64 0]) ∧ w = w' := by
  obtain ⟨c0, c1, _⟩ := h.cells
  have h1 : ((256 : Int) < (len : Int)) = False := by simp; omega
  have HF := Lib.hid (find_any B br F sv K f n hK w h)
  have h2 : ((n : Int) < (F : Int)) = False := by simp; omega
  have w1 : IntKind.u64.wrap (n : Int) = (n : Int) := by rw [IntKind.wrap_u64]; omega
  have w2 : IntKind.u64.wrap (F : Int) = (F : Int) := by rw [IntKind.wrap_u64]; omega
  have w3 : IntKind.u64.wrap ((F : Int) + 16) = (F : Int) + 16 := by rw [IntKind.wrap_u64]; omega
  have h4 : ((F : Int) + 16 ≤ (n : Int)) = True := by simp; omega
  have HN := Lib.hid hf
  have HR := Lib.hid h.r
  clear h hl ha hf hK hn hF
  go_enter Try.func72, Try.ntmps72
  go_wp2_with fail
  refine HF.out.mono ?_
  rintro e w' ⟨rfl, r, rfl, hr⟩
  have h3 : r = -1 := by
    rcases hr with ⟨e, _⟩ | ⟨j, v, rfl, hj⟩
    · exact e
    · obtain ⟨p, hp, _⟩ := HR.out.to n v (List.mem_of_getElem? hj)
      rw [HN.out] at hp; cases hp
  subst h3
  clear hr
  go_wp2_with fail
  go_ret3
  exact ⟨rfl, rfl⟩
end

/-! ### One is struck out: the last one takes its place -/
theorem swapdel_perm {α : Type} (K : List α) (r : Nat) (z : α) (hr : r < K.length) (hz : K[K.length - 1]? = some z) : ((K.set r z).dropLast).Perm (K.eraseIdx r) := by
  obtain ⟨I, z', rfl⟩ : ∃ I z', K = I ++ [z'] := by
    rcases List.eq_nil_or_concat K with rfl | ⟨I, z', h⟩
    · simp at hr
    · exact ⟨I, z', by simpa using h⟩
  have hlen : (I ++ [z']).length - 1 = I.length := by simp
  rw [hlen] at hz
  simp at hz
  subst hz
  by_cases h : r = I.length
  · subst h
    rw [List.eraseIdx_append_of_length_le (Nat.le_refl _)]
    simp
  · have hrI : r < I.length := by simp at hr; omega
    rw [List.set_append_left _ _ hrI, List.dropLast_concat, List.eraseIdx_append_of_lt_length hrI]
    rw [List.set_eq_take_append_cons_drop, if_pos hrI, List.eraseIdx_eq_take_drop_succ]
    rw [List.append_assoc]
    exact (List.perm_append_comm (l₁ := [z']) (l₂ := I.drop (r + 1))).append_left _
theorem RepK.perm {rd : Value → List Nat → Prop} {M M' : Ents} {f : Kept7} (h : RepK rd M f) (hp : M'.Perm M) : RepK rd M' f :=
  ⟨(hp.map Prod.fst).nodup_iff.2 h.nd, fun k x hx => h.to k x (hp.mem_iff.1 hx), fun k p hf => by obtain ⟨x, hx⟩ := h.fro k p hf; exact ⟨x, hp.mem_iff.2 hx⟩⟩
theorem RepK.erase {rd : Value → List Nat → Prop} {M : Ents} {f : Kept7} (h : RepK rd M f) {r k : Nat} {v : Value} (hr : M[r]? = some (k, v)) : RepK rd (M.eraseIdx r) (setK f k none) := by
  have hlt := (List.getElem?_eq_some_iff.1 hr).1
  have hM : M = M.take r ++ (k, v) :: M.drop (r + 1) := by
    have := List.take_append_drop r M
    rw [List.drop_eq_getElem_cons hlt] at this
    rw [(List.getElem?_eq_some_iff.1 hr).2] at this
    exact this.symm
  have hE : M.eraseIdx r = M.take r ++ M.drop (r + 1) := List.eraseIdx_eq_take_drop_succ _ _
  have hnd := h.nd
  rw [hM, List.map_append, List.map_cons] at hnd
  have hnd2 := (List.perm_middle.nodup_iff).1 hnd
  rw [List.nodup_cons] at hnd2
  have hnot : ∀ x, (k, x) ∉ M.eraseIdx r := fun x hx => hnd2.1 (by rw [← List.map_append, ← hE]; exact List.mem_map.2 ⟨_, hx, rfl⟩)
  refine ⟨by rw [hE, List.map_append]; exact hnd2.2, fun j x hx => ?_, fun j p hp => ?_⟩
  · have hj : j ≠ k := fun e => hnot x (e ▸ hx)
    have hx2 : (j, x) ∈ M := List.mem_of_mem_eraseIdx hx
    rw [setK_other _ _ hj]
    exact h.to j x hx2
  · by_cases e : j = k
    · subst e; rw [setK_same] at hp; cases hp
    · rw [setK_other _ _ e] at hp
      obtain ⟨x, hx⟩ := h.fro j p hp
      refine ⟨x, ?_⟩
      rw [hM] at hx
      rw [hE]
      rcases List.mem_append.1 hx with hx | hx
      · exact List.mem_append_left _ hx
      · rcases List.mem_cons.1 hx with hx | hx
        · injection hx with e1 e2; exact absurd e1 e
        · exact List.mem_append_right _ hx
end Go.Proofs.Ytbainekfbonbjaa
