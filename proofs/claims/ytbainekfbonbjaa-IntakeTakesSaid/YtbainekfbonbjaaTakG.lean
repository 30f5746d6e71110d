/- IntakeTakes: same: two rows of payloads that read alike. No statement is proved here; nothing is assumed. -/
import Derived.Test.YtbainekfbonbjaaTakF
namespace Go.Proofs.Ytbainekfbonbjaa
open Go.RowKit Go.Shelf Go.Maps
set_option linter.unusedVariables false
set_option linter.unusedSimpArgs false
attribute [local go_sem] Oper.semAt_some

set_option maxRecDepth 100000 in
set_option maxHeartbeats 2000000 in
theorem equalFunc_any (B B' B1 B2 : Nat) (v v' : Value) (vals vals' : List Value) (Ls : List (List Nat)) (hL : Ls.length ≤ 1000) (w : World) (hv : OwnAt B1 w 71 v vals) (hv' : OwnAt B2 w 71 v' vals') (hp : Pays B w vals Ls) (hp' : Pays B' w vals' Ls) :
    Calls Try.prog 105 #[v, v', .func (.func 78) #[] #[]] w fun e w' => e = .returned (.bool true) ∧ w = w' := by
  obtain ⟨q, cap, rfl, hc, hcm⟩ := hv.form
  obtain ⟨q', cap', rfl, hc', hcm'⟩ := hv'.form
  obtain ⟨L, hL1⟩ : ∃ L, L = Ls.length := ⟨_, rfl⟩
  have h1 : vals.length = L := by rw [hL1]; exact hp.1
  have h2 : vals'.length = L := by rw [hL1]; exact hp'.1
  rw [h1] at hc hv ⊢
  rw [h2] at hc' hv' ⊢
  have hL' : L ≤ 1000 := by omega
  have HX := Lib.hid (show ∀ j, j < L → ∃ g off g' off' uq un uc uq' un' uc', q = some ⟨g, off, none⟩ ∧ q' = some ⟨g', off', none⟩ ∧ w.cell? ⟨g, off + j, none⟩ = some (.slice uq un uc) ∧ w.cell? ⟨g', off' + j, none⟩ = some (.slice uq' un' uc') ∧ ∃ p : List Nat, (∀ x ∈ p, x < 256) ∧ Reads w (.slice uq un uc) (u8s p) ∧ Reads w (.slice uq' un' uc') (u8s p) from fun j hj => by
    obtain ⟨u, hu⟩ : ∃ u, vals[j]? = some u := ⟨_, List.getElem?_eq_getElem (by omega)⟩
    obtain ⟨u', hu'⟩ : ∃ u, vals'[j]? = some u := ⟨_, List.getElem?_eq_getElem (by omega)⟩
    obtain ⟨p, hpp⟩ : ∃ p, Ls[j]? = some p := ⟨_, List.getElem?_eq_getElem (by omega)⟩
    have a1 := hp.2 j u p hu hpp
    have a2 := hp'.2 j u' p hu' hpp
    obtain ⟨uq, un, uc, rfl⟩ := a1.1.slice'
    obtain ⟨uq', un', uc', rfl⟩ := a2.1.slice'
    obtain ⟨g, off, c1, e1, _, _, e2⟩ := hv.at hu
    obtain ⟨g', off', c1', e1', _, _, e2'⟩ := hv'.at hu'
    injection e1 with e1
    injection e1' with e1'
    exact ⟨g, off, g', off', uq, un, uc, uq', un', uc', e1, e1', e2, e2', p, a1.2.2, a1.1.reads, a2.1.reads⟩)
  have hcb : cap ≤ 9223372036854775807 := by unfold maxLen at hcm; omega
  have hcb' : cap' ≤ 9223372036854775807 := by unfold maxLen at hcm'; omega
  clear hv hv' hp hp' h1 h2 hL1 hL hcm hcm'
  go_enter Try.func105, Try.ntmps105
  go_wp2_with fail
  go_loopw [17] (fun i wr => ∃ j : Nat, j ≤ L ∧ i = .int .i64 (j : Int) ∧ w = wr) (fun i wr => L - (intOf i).toNat)
  case atStart => exact ⟨0, by omega, rfl, rfl⟩
  case round =>
    obtain ⟨j, hj, rfl, rfl⟩ := hrel
    by_cases hlt : j < L
    · have s1 : ((j : Int) < (L : Int)) = True := by simp; omega
      have hjc : (j : Int) < (L : Int) := by omega
      have hw2 : IntKind.i64.wrap ((j : Int) + 1) = ((j : Int) + 1) := by rw [IntKind.wrap_i64]; omega
      obtain ⟨g, off, g', off', uq, un, uc, uq', un', uc', rfl, rfl, c1, c2, p, hp, hr, hr'⟩ := HX.out j hlt
      have HE := Lib.hid (equalB_any _ _ p hp w hr hr')
      clear hp hr hr'
      go_wp2_with (first | (go_at_call 78; refine HE.out.mono ?_; rintro e w' ⟨rfl, rfl⟩))
      go_roundw
      case rel => exact ⟨j + 1, by omega, by go_num, trivial⟩
      case measure => simp [intOf]; omega
    · have hjL : j = L := by omega
      have s1 : ((j : Int) < (L : Int)) = False := by simp; omega
      clear hjL HX
      go_wp2_with fail
      go_ret
      exact ⟨rfl, rfl⟩
theorem same_any (B B' B1 B2 : Nat) (v v' : Value) (vals vals' : List Value) (Ls : List (List Nat)) (hL : Ls.length ≤ 1000) (w : World) (hv : OwnAt B1 w 71 v vals) (hv' : OwnAt B2 w 71 v' vals') (hp : Pays B w vals Ls) (hp' : Pays B' w vals' Ls) :
    Calls Try.prog 74 #[v, v'] w fun e w' => e = .returned (.bool true) ∧ w = w' := by
  have H := Lib.hid (equalFunc_any B B' B1 B2 v v' vals vals' Ls hL w hv hv' hp hp')
  clear hv hv' hp hp' hL
  go_enter Try.func74, Try.ntmps74
  go_wp2_with (first | (go_at_call 105; refine H.out.mono ?_; rintro e w' ⟨rfl, rfl⟩))
  go_ret
  exact ⟨rfl, rfl⟩
end Go.Proofs.Ytbainekfbonbjaa
