/- What a call on a net does, in plain words; the net does it, and the reference's. No statement is proved here; nothing is assumed. -/
import Derived.Test.YtnomnhlfenhjdaaNetZb
namespace Go.Proofs.Ytnomnhlfenhjdaa
open Go.RowKit Go.Shelf
set_option linter.unusedVariables false

/-- What waits, as numbers. -/
abbrev Rows2 := Nat → List (List Nat)
def vals (L : Rows2) : Nat → List (List Value) := fun k => (L k).map u8s
theorem vals_upd (L : Rows2) (way : Nat) (X : List (List Nat)) : vals (upd L way X) = upd (vals L) way (X.map u8s) := by
  funext k; unfold vals upd; split <;> rfl
/-- Bytes, and no more than so many. -/
structure Sound (L : Rows2) : Prop where
  ln : ∀ k, k < 2 → (L k).length ≤ 64
  by8 : ∀ k, k < 2 → ∀ xs ∈ L k, xs.length ≤ 600 ∧ ∀ x ∈ xs, x < 256
theorem Sound.upd {L : Rows2} (h : Sound L) (way : Nat) {X : List (List Nat)} (hl : X.length ≤ 64) (hx : ∀ xs ∈ X, xs.length ≤ 600 ∧ ∀ x ∈ xs, x < 256) : Sound (upd L way X) := by
  refine ⟨fun k hk => ?_, fun k hk xs hxs => ?_⟩
  · by_cases e : k = way
    · subst e; rw [upd_same]; exact hl
    · rw [upd_other _ _ e]; exact h.ln k hk
  · by_cases e : k = way
    · subst e; rw [upd_same] at hxs; exact hx xs hxs
    · rw [upd_other _ _ e] at hxs; exact h.by8 k hk xs hxs

def badWay (way : Int) : Prop := way < 0 ∨ 2 ≤ way
instance (way : Int) : Decidable (badWay way) := by unfold badWay; exact inferInstance
def outAt (L : Rows2) (way i : Int) : Prop := i < 0 ∨ ((L way.toNat).length : Int) ≤ i
instance (L : Rows2) (way i : Int) : Decidable (outAt L way i) := by unfold outAt; exact inferInstance
def standE (L : Rows2) (way i : Int) : Int := if badWay way then 1 else if outAt L way i then 6 else 0
/-- The bytes at a place. -/
def atB (L : Rows2) (way i : Int) : List Nat := ((L way.toNat)[i.toNat]?).getD []
def delL (L : Rows2) (way i : Int) : Rows2 := if standE L way i = 0 then upd L way.toNat ((L way.toNat).eraseIdx i.toNat) else L
def delB (L : Rows2) (way i : Int) : List Nat := if standE L way i = 0 then atB L way i else []
def dblE (L : Rows2) (way i : Int) : Int := if standE L way i = 0 then (if 64 ≤ (L way.toNat).length then 7 else 0) else standE L way i
def dblL (L : Rows2) (way i : Int) : Rows2 := if dblE L way i = 0 then upd L way.toNat (L way.toNat ++ [atB L way i]) else L
def flpE (L : Rows2) (way i b : Int) : Int := if standE L way i = 0 then (if b < 0 ∨ 8 * ((atB L way i).length : Int) ≤ b then 1 else 0) else standE L way i
def flpL (L : Rows2) (way i b : Int) : Rows2 := if flpE L way i b = 0 then upd L way.toNat ((L way.toNat).set i.toNat ((atB L way i).set (b.toNat / 8) (flipN ((atB L way i)[b.toNat / 8]?.getD 0) (b.toNat % 8)))) else L
def sndE (way : Int) (xs : List Nat) : Int := if badWay way then 1 else if 600 < xs.length then 3 else 0
def sndLost (L : Rows2) (way : Int) (xs : List Nat) : Bool := decide (sndE way xs = 0 ∧ 64 ≤ (L way.toNat).length)
def sndL (L : Rows2) (way : Int) (xs : List Nat) : Rows2 := if sndE way xs = 0 then upd L way.toNat ((if 64 ≤ (L way.toNat).length then (L way.toNat).eraseIdx 0 else L way.toNat) ++ [xs]) else L

theorem stand_cases (L : Rows2) (way i : Int) : (badWay way ∧ standE L way i = 1) ∨ (¬ badWay way ∧ outAt L way i ∧ standE L way i = 6) ∨ (∃ k j : Nat, way = (k : Int) ∧ i = (j : Int) ∧ k < 2 ∧ j < (L k).length ∧ standE L way i = 0) := by
  unfold standE
  by_cases h1 : badWay way
  · exact .inl ⟨h1, by rw [if_pos h1]⟩
  · by_cases h2 : outAt L way i
    · exact .inr (.inl ⟨h1, h2, by rw [if_neg h1, if_pos h2]⟩)
    · refine .inr (.inr ?_)
      unfold badWay at h1
      obtain ⟨k, rfl⟩ := Int.eq_ofNat_of_zero_le (show 0 ≤ way by omega)
      have h2' := h2
      unfold outAt at h2
      obtain ⟨j, rfl⟩ := Int.eq_ofNat_of_zero_le (show 0 ≤ i by omega)
      simp at h2
      exact ⟨k, j, rfl, rfl, by omega, h2, by rw [if_neg (by unfold badWay; exact h1), if_neg h2']⟩
theorem Sound.del {L : Rows2} (h : Sound L) (way i : Int) : Sound (delL L way i) := by
  unfold delL
  split
  · rename_i hs
    rcases stand_cases L way i with ⟨_, h1⟩ | ⟨_, _, h1⟩ | ⟨k, j, rfl, rfl, hk, hj, _⟩
    · omega
    · omega
    · exact h.upd _ (Nat.le_trans (List.length_eraseIdx_le _ _) (h.ln k hk)) (fun xs hxs => h.by8 k hk xs (List.eraseIdx_subset hxs))
  · exact h
theorem atB_mem {L : Rows2} {k j : Nat} (hj : j < (L k).length) : (L k)[j]? = some (atB L (k : Int) (j : Int)) := by
  unfold atB; simp [List.getElem?_eq_getElem hj]
theorem Sound.dbl {L : Rows2} (h : Sound L) (way i : Int) : Sound (dblL L way i) := by
  unfold dblL
  split
  · rename_i hs
    unfold dblE at hs
    rcases stand_cases L way i with ⟨_, h1⟩ | ⟨_, _, h1⟩ | ⟨k, j, rfl, rfl, hk, hj, h1⟩
    · rw [h1] at hs; simp at hs
    · rw [h1] at hs; simp at hs
    · rw [h1, if_pos rfl] at hs
      simp at hs
      have hm := h.by8 k hk _ (List.mem_of_getElem? (atB_mem hj))
      refine h.upd _ ?_ (fun xs hxs => ?_)
      · simp; omega
      · rcases List.mem_append.1 hxs with hxs | hxs
        · exact h.by8 k hk xs hxs
        · simp only [List.mem_singleton] at hxs; subst hxs; exact hm
  · exact h
theorem Sound.flp {L : Rows2} (h : Sound L) (way i b : Int) : Sound (flpL L way i b) := by
  unfold flpL
  split
  · rename_i hs
    unfold flpE at hs
    rcases stand_cases L way i with ⟨_, h1⟩ | ⟨_, _, h1⟩ | ⟨k, j, rfl, rfl, hk, hj, h1⟩
    · rw [h1] at hs; simp at hs
    · rw [h1] at hs; simp at hs
    · have hm := h.by8 k hk _ (List.mem_of_getElem? (atB_mem hj))
      refine h.upd _ (by simpa using h.ln k hk) (fun xs hxs => ?_)
      rcases List.mem_or_eq_of_mem_set hxs with hxs | rfl
      · exact h.by8 k hk xs hxs
      · refine ⟨by simpa using hm.1, fun x hx => ?_⟩
        rcases List.mem_or_eq_of_mem_set hx with hx | rfl
        · exact hm.2 x hx
        · have hxb : ((atB L (k : Int) (j : Int))[b.toNat / 8]?.getD 0) < 256 := by
            cases hq : (atB L (k : Int) (j : Int))[b.toNat / 8]? with
            | none => simp
            | some q => exact hm.2 q (List.mem_of_getElem? hq)
          exact (flipV_eq hxb (Nat.mod_lt _ (by omega))).2.1
  · exact h
theorem Sound.snd {L : Rows2} (h : Sound L) (way : Int) (xs : List Nat) (hx : ∀ x ∈ xs, x < 256) : Sound (sndL L way xs) := by
  unfold sndL
  split
  · rename_i hs
    unfold sndE at hs
    have hbw : ¬ badWay way := fun hb => by rw [if_pos hb] at hs; cases hs
    rw [if_neg hbw] at hs
    have hl : xs.length ≤ 600 := by
      by_cases h6 : 600 < xs.length
      · rw [if_pos h6] at hs; cases hs
      · omega
    unfold badWay at hbw
    have hk : way.toNat < 2 := by omega
    have h64 := h.ln _ hk
    refine h.upd _ ?_ (fun ys hys => ?_)
    · split
      · rename_i hf
        rw [List.length_append, List.length_eraseIdx_of_lt (by omega)]
        simp; omega
      · simp; omega
    · rcases List.mem_append.1 hys with hys | hys
      · split at hys
        · exact h.by8 _ hk ys (List.eraseIdx_subset hys)
        · exact h.by8 _ hk ys hys
      · simp only [List.mem_singleton] at hys; subst hys; exact ⟨hl, hx⟩
  · exact h
end Go.Proofs.Ytnomnhlfenhjdaa
