/- CreditBounded: acts 3, 4 (what is on its way comes), 8 (a grant comes). No statement is proved here; nothing is assumed. -/
import Derived.Test.YtnomnhlfenhjdaaCreL
import Derived.OwnWalkIn
import Derived.TacticsInMore
import Derived.LoopNIn
import Derived.LoopIn
import Derived.Deep.QuietTactic
import Derived.BigQuiet
import Derived.Maps.OwnIn
import Derived.Deep.RegionHeld3
import Derived.Laws.Bits64
namespace Go.Proofs.Ytnomnhlfenhjdaa
open Go.RowKit Go.Shelf
set_option linter.unusedVariables false
attribute [local go_sem] Oper.semAt_some

/-- Without the first, as Go's slicing leaves it. -/
theorem OwnAt.rest' {B : Nat} {W : World} {e : TypeId} {x : Value} {vals : List Value} {g off n cap : Nat} (h : OwnAt B W e (.slice (some ⟨g, off, none⟩) n cap) (x :: vals)) :
    OwnAt B W e (.slice (if cap = 1 then some ⟨g, off, none⟩ else some ⟨g, off + 1, none⟩) (n - 1) (cap - 1)) vals := by
  rcases h with ⟨h, _⟩ | ⟨g', off', cap', cur, hv, hb, hg, h1, h2, h3, h4⟩
  · cases h
  · cases hv
    simp only [List.length_cons] at h1 h4 ⊢
    split
    · rename_i hc
      subst hc
      have hl : vals = [] := List.eq_nil_of_length_eq_zero (by omega)
      subst hl
      exact .inr ⟨g, off, 0, cur, rfl, hb, hg, Nat.le_refl _, by simp [maxLen], by omega, fun j hj => by simp at hj⟩
    · refine .inr ⟨g, off + 1, cap - 1, cur, rfl, hb, hg, by omega, by omega, by omega, fun j hj => ?_⟩
      have := h4 (j + 1) (by omega)
      rw [show off + 1 + j = off + (j + 1) by omega, this]
      simp
theorem keepd {W W' : World} {b : Nat} {a : Addr} {v : Value} (hs : Step [b] W W') (hne : a.block ≠ b) (h : W.cell? a = some v) : W'.cell? a = some v := by
  have hlt := World.block_lt_of_cell? _ _ h
  have := hs.same a.block hlt (by simp; exact hne)
  unfold World.cell? at h ⊢
  rw [this]; exact h
theorem ownBlock_if {c : Prop} [Decidable c] {g off off' n cap : Nat} : (Value.slice (if c then some ⟨g, off, none⟩ else some ⟨g, off', none⟩) n cap).ownBlock = some g := by split <;> rfl

/-- What has come, and what has not. -/
def Came (n n' : Nat) (way dn ws : List Nat) : Prop := n' ≤ n ∧ way = dn ++ ws ∧ (n' = n ∧ dn = [] ∨ dn ≠ [])

set_option maxRecDepth 100000 in
set_option maxHeartbeats 4000000 in
theorem does_take (B n : Nat) (a : Int) (ha : a = 3 ∨ a = 4) (hn : n < 256) (bx bs bg m g p G t u sp us : Nat) (v1 v2 : Value) (way gs : List Nat) (hm : 1 ≤ m) (hp : t + way.sum ≤ G) (hG : G < 1000000) (W : World)
    (h : Ends B W bx bs bg m g p G t u sp us v1 v2 way gs) :
    Calls Try.prog 27 #[.pointer (some ⟨bx, 0, none⟩), .agg #[.int .u8 a, .int .u8 (n : Int)]] W fun e W' => e = .returned (.bool true) ∧ ∃ v' dn ws, way = dn ++ ws ∧ (0 < n % 5 → way ≠ [] → dn ≠ []) ∧ Ends B W' bx bs bg m g p G (t + dn.sum) u sp us v' v2 ws gs ∧ StepB B W W' := by
  obtain ⟨c0, c1, c2, c3, c4, c5⟩ := h.cells1
  have H := Lib.hid h
  have HM := Lib.hid hm
  have HP := Lib.hid hp
  have HG := Lib.hid hG
  clear h hp hG hm
  rcases ha with rfl | rfl
  all_goals
    go_enter Try.func27, Try.ntmps27
    go_wp2_with fail
    have H0 := fun o : Obj => Lib.hid (show Came n n way [] way ∧ Ends B (W.alloc o) bx bs bg m g p G (t + ([] : List Nat).sum) u sp us v1 v2 way gs ∧ StepB B W (W.alloc o) from ⟨⟨Nat.le_refl _, rfl, .inl ⟨rfl, rfl⟩⟩, by simpa using H.out.same (Step.alloc _ _), StepB.of (Step.alloc _ _)⟩)
    clear c0 c1 c2 c3 c4 c5 H
    go_loopw [5] (fun i wr => ∃ (n' : Nat) (dn ws : List Nat) (v' : Value), i = .int .i64 (n' : Int) ∧ Hid (Came n n' way dn ws ∧ Ends B wr bx bs bg m g p G (t + dn.sum) u sp us v' v2 ws gs ∧ StepB B W wr)) (fun i wr => (intOf i).toNat)
    case atStart => exact ⟨n, [], way, v1, rfl, H0 _⟩
    case round =>
      obtain ⟨n', dn, ws, v', rfl, hI⟩ := hrel
      clear H0
      have hn' : n' < 256 := by have := hI.out.1.1; omega
      by_cases h5 : n' % 5 = 0
      · have t5 : (0 < (n' : Int) % 5) = False := by simp; omega
        have HH5 := Lib.hid h5
        clear h5
        go_wp2
        go_ret
        exact ⟨rfl, _, dn, ws, hI.out.1.2.1, fun h0 hw => by rcases hI.out.1.2.2 with ⟨h1, h2⟩ | h1; (have := HH5.out; omega); exact h1, hI.out.2.1, hI.out.2.2⟩
      · have t5 : (0 < (n' : Int) % 5) = True := by simp; omega
        have HN1 := Lib.hid (show 1 ≤ n' by omega)
        clear h5
        cases ws with
        | nil =>
          obtain ⟨q, cap, hv, _, _⟩ := hI.out.2.1.xw.form
          simp only [List.map_nil, List.length_nil] at hv
          subst hv
          obtain ⟨c0, c1, c2, c3, c4, c5, f2, f3, f4, f5⟩ := hI.out.2.1.cells
          go_wp2
          go_ret
          exact ⟨rfl, _, dn, [], hI.out.1.2.1, fun h0 hw => by have := hI.out.1.2.1; simp at this; rw [← this]; exact hw, hI.out.2.1, hI.out.2.2⟩
        | cons x ws =>
          obtain ⟨gk, off, cap, rfl, hl, hcm, hc⟩ := hI.out.2.1.xw.at (j := 0) (x := ival x) rfl
          obtain ⟨L, hL⟩ : ∃ L, L = ((x :: ws).map ival).length := ⟨_, rfl⟩
          rw [← hL] at hI hl
          obtain ⟨c0, c1, c2, c3, c4, c5, f2, f3, f4, f5⟩ := hI.out.2.1.cells
          have hc : wr.cell? ⟨gk, off, none⟩ = some (.int .i64 (x : Int)) := hc
          have hL0 : (0 : Int) < (L : Int) := by rw [hL]; simp
          have hlc : (L : Int) ≤ (cap : Int) := by omega
          have hcm2 : (cap : Int) ≤ 9223372036854775807 := by unfold maxLen at hcm; omega
          clear hL hl hcm
          go_wp2_with fail
          have k1 : wr.drew.cell? ⟨bx, 1, none⟩ = some (.pointer (some ⟨bg, 0, none⟩)) ∧ wr.drew.cell? ⟨bx, 2, none⟩ = some (.slice (some ⟨gk, off, none⟩) L cap) ∧ wr.drew.cell? ⟨gk, off, none⟩ = some (.int .i64 (x : Int)) := ⟨c1, c2, hc⟩
          have H2 := Lib.hid (hI.out.2.1.same (Step.drew wr))
          have HS2 := Lib.hid (hI.out.2.2.trans (StepB.of (Step.drew wr)))
          have HC := Lib.hid hI.out.1
          have HN := Lib.hid ((hI.out.2.1.n2 (k := gk) rfl).2.2)
          have hsum : t + way.sum = t + dn.sum + x + ws.sum := by rw [hI.out.1.2.1]; simp; omega
          have HX := Lib.hid (show x ≤ G - (t + dn.sum) by have := HP.out; omega)
          have HT := Lib.hid (show t + dn.sum ≤ G by have := HP.out; omega)
          clear hI hsum c0 c1 c2 c3 c4 c5 f2 f3 f4 f5 hc
          go_region_held3 (fun W => W.cell? ⟨bx, 1, none⟩ = some (.pointer (some ⟨bg, 0, none⟩)) ∧ W.cell? ⟨bx, 2, none⟩ = some (.slice (some ⟨gk, off, none⟩) L cap) ∧ W.cell? ⟨gk, off, none⟩ = some (.int .i64 (x : Int))) (first | exact k1 | exact ⟨H2.out.cells.2.1, H2.out.cells.2.2.1, H3.out⟩)
            (first
              | (go_at_call 19; refine (take_is bg m G (t + dn.sum) u (t + dn.sum + x) (x : Int) 0 (by have := HX.out; have := HG.out; omega) HM.out HT.out (by have := HG.out; omega) (amt_ok HX.out) (paid_ok HX.out) _ H2.out.xg).mono ?_; rintro e w' ⟨rfl, hh, hs⟩; replace HS2 := Lib.hid (HS2.out.trans (StepB.one hs H2.out.bg0)); replace H2 := Lib.hid (H2.out.turnG hs hh); have H3 := Lib.hid (show w'.cell? ⟨gk, off, none⟩ = some (.int .i64 (x : Int)) from keepd hs HN.out k1.2.2); clear hh hs))
          (try clear hHeld)
          obtain ⟨c0, c1, c2, c3, c4, c5, f2, f3, f4, f5⟩ := H2.out.cells
          have hrest := H2.out.xw.rest'
          have hput := (H2.out.put 2 _ (v1' := .slice (if cap = 1 then some ⟨gk, off, none⟩ else some ⟨gk, off + 1, none⟩) (L - 1) (cap - 1)) (setCell_obj H2.out.xo 2 _) hrest H2.out.xq (fun k hk => H2.out.nb k (by rw [ownBlock_if] at hk; exact hk)))
          have H4 := Lib.hid hput.1
          have HS4 := Lib.hid (HS2.out.trans (StepB.one hput.2 H2.out.bx0))
          clear hrest hput
          go_wp2
          go_roundw
          case rel => exact ⟨n' - 1, dn ++ [x], ws, _, by have := HN1.out; congr 1; omega, ⟨by have := HC.out.1; omega, by rw [HC.out.2.1]; simp, .inr (by simp)⟩, by simpa [Nat.add_assoc] using H4.out, HS4.out⟩
          case measure => have := HN1.out; simp [intOf]; omega
end Go.Proofs.Ytnomnhlfenhjdaa
