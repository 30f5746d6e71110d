/- window: one item alone. No statement is proved here; nothing is assumed. -/
import Derived.Test.YtbainekfbonbjaaWinG
namespace Go.Proofs.Ytbainekfbonbjaa
open Go.RowKit Go.Shelf
set_option linter.unusedVariables false
set_option linter.unusedSimpArgs false
attribute [local go_sem] Oper.semAt_some

def oneG (p : List Nat) (t at' : Nat) : Kept6 := fun k => if k = 0 then some (p, t, at') else none
theorem one_set (p : List Nat) (at' : Nat) : setG (fun _ => none) 0 (some (p, 0, at')) = oneG p 0 at' := by
  funext k; unfold setG oneG; rfl
theorem one_keys (p : List Nat) (t at' : Nat) : keysG (oneG p t at') 1 = [0] := by
  unfold keysG oneG
  rfl
theorem one_due (p : List Nat) (t at' now : Nat) : dueL now (oneG p t at') 1 = if at' ≤ now then [(0, p, t + 1)] else [] := by
  unfold dueL dueOf
  rw [one_keys]
  show (([0] : List Nat).filterMap (dueOne now (oneG p t at'))) = _
  unfold dueOne oneG
  by_cases h : at' ≤ now <;> simp [h]
theorem one_next (a z now : Nat) (p : List Nat) (t at' : Nat) : dueG a z now (oneG p t at') = if at' ≤ now then oneG p (t + 1) (now + waitN a z (t + 1)) else oneG p t at' := by
  funext k
  unfold dueG oneG dueX
  by_cases h : at' ≤ now
  · by_cases e : k = 0 <;> simp [h, e]
  · by_cases e : k = 0 <;> simp [h, e]
theorem one_min {p : List Nat} {t at' x : Nat} (h : MinAt (oneG p t at') x) : x = at' := by
  obtain ⟨⟨k, y, h1, h2⟩, _⟩ := h
  unfold oneG at h1
  split at h1
  · cases h1; exact h2.symm
  · cases h1
theorem ack_one {p : List Nat} {t at' : Nat} : ackG 1 0 (oneG p t at') = fun _ => none := by
  funext k
  unfold ackG oneG
  by_cases e : k = 0
  · subst e; simp
  · rw [if_neg e]; simp
section
variable {B b sp bm lim a z t at' : Nat} {M : Ents} {p : List Nat} {w : World}
theorem one_len {u : Nat} (hu : u = 1) (h : WinM B w b sp bm u lim a z M (oneG p t at')) : M.length = 1 := by
  subst hu
  rw [h.len, one_keys]; rfl
theorem one_wakes (h : WinM B w b sp bm 1 lim a z M (oneG p t at')) : Calls Try.prog 55 #[.pointer (some ⟨b, 0, none⟩)] w fun e w' => e = .returned (.tuple #[.int .i64 (at' : Int), .bool true]) ∧ Step [] w w' := by
  have hl := one_len rfl h
  refine (wakes6_some h (by omega) (by omega)).mono ?_
  rintro e w' ⟨x, rfl, hx, hs⟩
  rw [one_min hx]
  exact ⟨rfl, hs⟩
theorem one_due_no (h : WinM B w b sp bm 1 lim a z M (oneG p t at')) (hB : B ≤ w.heap.size) (ht : t < 1000000) (now : Nat) (hn : now ≤ 1099511627776) (hlt : now < at') :
    Calls Try.prog 49 #[.pointer (some ⟨b, 0, none⟩), .int .i64 (now : Int)] w fun e w' => ∃ q c M', e = .returned (.slice q 0 c) ∧ WinM B w' b sp bm 1 lim a z M' (oneG p t at') ∧ Step [bm] w w' := by
  have hl := one_len rfl h
  refine (due6_any pdqAt12 (by omega) B b sp bm 1 lim a z M _ w h hB (by omega) (fun k x hx => ?_) (now : Int) now (by omega)).mono ?_
  · unfold oneG at hx
    split at hx
    · cases hx; exact ht
    · cases hx
  · rintro e w' ⟨v, M', rfl, h1, h2, h3, h4⟩
    rw [one_due, if_neg (by omega)] at h1
    rw [one_next, if_neg (by omega)] at h2
    obtain ⟨q, c, rfl, _⟩ := h1.form
    exact ⟨q, c, M', rfl, h2, h4⟩
theorem one_due_yes (h : WinM B w b sp bm 1 lim a z M (oneG p t at')) (hB : B ≤ w.heap.size) (ht : t < 1000000) (now : Nat) (hn : now ≤ 1099511627776) (hle : at' ≤ now) :
    Calls Try.prog 49 #[.pointer (some ⟨b, 0, none⟩), .int .i64 (now : Int)] w fun e w' => ∃ q c M', e = .returned (.slice q 1 c) ∧ 1 ≤ c ∧ c ≤ maxLen ∧ OutAt w.heap.size w' (.slice q 1 c) [(0, p, t + 1)] ∧ WinM B w' b sp bm 1 lim a z M' (oneG p (t + 1) (now + waitN a z (t + 1))) ∧ Step [bm] w w' := by
  have hl := one_len rfl h
  refine (due6_any pdqAt12 (by omega) B b sp bm 1 lim a z M _ w h hB (by omega) (fun k x hx => ?_) (now : Int) now (by omega)).mono ?_
  · unfold oneG at hx
    split at hx
    · cases hx; exact ht
    · cases hx
  · rintro e w' ⟨v, M', rfl, h1, h2, h3, h4⟩
    rw [one_due, if_pos hle] at h1
    rw [one_next, if_pos hle] at h2
    obtain ⟨q, c, rfl, hc1, hc2⟩ := h1.form
    exact ⟨q, c, M', rfl, hc1, hc2, h1, h2, h4⟩
end
/-- The chapter's row: when one is due, time after time. -/
def atsT (j : Nat) : Nat := [5, 15, 35, 65, 95, 125].getD j 0
theorem ats_next : ∀ j, j < 5 → atsT j + waitN 10 30 (j + 1) = atsT (j + 1) := by decide
theorem ats_small (j : Nat) : atsT j ≤ 125 := by
  unfold atsT
  match j with
  | 0 => decide
  | 1 => decide
  | 2 => decide
  | 3 => decide
  | 4 => decide
  | 5 => decide
  | j + 6 => simp
theorem ats_pos : ∀ j, j < 5 → 1 ≤ atsT j := by decide
end Go.Proofs.Ytbainekfbonbjaa
