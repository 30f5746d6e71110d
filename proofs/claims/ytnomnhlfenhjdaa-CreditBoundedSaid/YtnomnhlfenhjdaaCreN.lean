/- CreditBounded: act 8 (a grant comes). No statement is proved here; nothing is assumed. -/
import Derived.Test.YtnomnhlfenhjdaaCreM
import Derived.OwnWalkIn
import Derived.TacticsInMore
import Derived.LoopNIn
import Derived.LoopIn
import Derived.Deep.QuietTactic
import Derived.BigQuiet
import Derived.Maps.OwnIn
import Derived.Deep.RegionHeld3
import Derived.Laws.Bits64
namespace Go.Proofs.Ytnomnhlfenhjdaa
open Go.RowKit Go.Shelf
set_option linter.unusedVariables false
attribute [local go_sem] Oper.semAt_some

set_option maxRecDepth 100000 in
theorem does_none (B n : Nat) (hn : n < 256) (bx bs bg m g p G t u sp us : Nat) (v1 v2 : Value) (way : List Nat) (W : World)
    (h : Ends B W bx bs bg m g p G t u sp us v1 v2 way []) :
    Calls Try.prog 27 #[.pointer (some ⟨bx, 0, none⟩), .agg #[.int .u8 8, .int .u8 (n : Int)]] W fun e W' => e = .returned (.bool true) ∧ Ends B W' bx bs bg m g p G t u sp us v1 v2 way [] ∧ StepB B W W' := by
  obtain ⟨q, cap, hv, _, _⟩ := h.xq.form
  simp only [List.map_nil, List.length_nil] at hv
  subst hv
  obtain ⟨c0, c1, c2, c3, c4, c5⟩ := h.cells1
  have H := Lib.hid h
  clear h
  go_enter Try.func27, Try.ntmps27
  go_wp2
  go_quiet (fail)
  go_wp2
  go_ret
  exact ⟨rfl, H.out.same ((Step.alloc _ _).trans (Step.drewN _ _)), StepB.of ((Step.alloc _ _).trans (Step.drewN _ _))⟩

set_option maxRecDepth 100000 in
set_option maxHeartbeats 4000000 in
theorem does_granted (B n : Nat) (hn : n < 256) (bx bs bg m g p G t u sp us : Nat) (v1 v2 : Value) (way gs : List Nat) (hm : 1 ≤ m) (hm2 : m ≤ 8192) (hp : p ≤ g) (hg : g < 1000000) (r x : Nat) (hr : r = n % gs.length) (hx : gs[r]? = some x) (hxb : x ≤ p + m) (hxl : x < 1000000) (hlen : gs.length < 1000) (W : World)
    (h : Ends B W bx bs bg m g p G t u sp us v1 v2 way gs) :
    Calls Try.prog 27 #[.pointer (some ⟨bx, 0, none⟩), .agg #[.int .u8 8, .int .u8 (n : Int)]] W fun e W' => e = .returned (.bool true) ∧ Ends B W' bx bs bg m (max g x) p G t u sp us v1 v2 way gs ∧ StepB B W W' := by
  obtain ⟨gk, off, cap, hv, hl, hcm, hc⟩ := h.xq.at (j := r) (x := ival x) (by simp [hx])
  have hrl : r < gs.length := (List.getElem?_eq_some_iff.1 hx).1
  rw [List.length_map] at hv hl
  subst hv
  obtain ⟨c0, c1, c2, c3, c4, c5⟩ := h.cells1
  have hc1 : ∀ o, (W.alloc o).cell? ⟨gk, off + r, none⟩ = some (.int .i64 (x : Int)) := fun o => step_cell (Step.alloc W o) hc
  have H := Lib.hid h
  have HM := Lib.hid hm
  have HM2 := Lib.hid hm2
  have HP := Lib.hid hp
  have HG := Lib.hid (show g < 4611686018427387904 by omega)
  have HX := Lib.hid (show x < 18446744073709551616 by omega)
  have HN2 := Lib.hid (h.n3 (k := gk) rfl).2.1
  have hE := Lib.hid (show lateE m p x = 0 from if_neg (by omega))
  have hGq := Lib.hid (show lateG m g p x = max g x from if_neg (by omega))
  have hcm2 : (cap : Int) ≤ 9223372036854775807 := by unfold maxLen at hcm; omega
  obtain ⟨L, hL⟩ : ∃ L, L = gs.length := ⟨_, rfl⟩
  rw [← hL] at hr hl hrl hlen h H c3 ⊢
  have hm1 : (n : Int) % (L : Int) = (r : Int) := by rw [hr]; omega
  have hL0 : (0 : Int) < (L : Int) := by omega
  have hL1 : 0 < L := by omega
  have hLz : ((L : Int) == 0) = false := by simp; omega
  have hLz2 : ¬ L = 0 := by omega
  have hri2 : r < L := by omega
  have hLm : (L : Int) ≤ 9223372036854775807 := by unfold maxLen at hcm; omega
  have hri3 : (0 : Int) ≤ (r : Int) := by omega
  have htm : (n : Int).tmod (L : Int) = (r : Int) := by rw [Int.tmod_eq_emod_of_nonneg (by omega)]; exact hm1
  have hrm : IntKind.i64.wrap (r : Int) = (r : Int) := by rw [IntKind.wrap_i64]; unfold maxLen at hcm; omega
  have hlc : (L : Int) ≤ (cap : Int) := by omega
  have hri : (r : Int) < (L : Int) := by omega
  have hwx : IntKind.u64.wrap (x : Int) = (x : Int) := by rw [IntKind.wrap_u64]; omega
  clear h hm hm2 hp hg hr hx hxb hxl hL hl hcm hc hrl hlen
  go_enter Try.func27, Try.ntmps27
  go_wp2_with fail
  have H1 := Lib.hid (H.out.same (Step.alloc W (.cells #[.int .u8 8, .int .u8 (n : Int)] 57)))
  have HS1 := Lib.hid (StepB.of (B := B) (Step.alloc (S := []) W (.cells #[.int .u8 8, .int .u8 (n : Int)] 57)))
  have hc2 := hc1 (.cells #[.int .u8 8, .int .u8 (n : Int)] 57)
  clear c0 c1 c2 c3 c4 c5 hc1 H
  generalize W.alloc (.cells #[.int .u8 8, .int .u8 (n : Int)] 57) = W1 at *
  have H2 := Lib.hid (H1.out.same (Step.drew W1))
  have HS2 := Lib.hid (HS1.out.trans (StepB.of (Step.drew W1)))
  have k1 : W1.drew.cell? ⟨bx, 0, none⟩ = some (.pointer (some ⟨bs, 0, none⟩)) ∧ W1.drew.cell? ⟨bx, 3, none⟩ = some (.slice (some ⟨gk, off, none⟩) L cap) ∧ W1.drew.cell? ⟨gk, off + r, none⟩ = some (.int .i64 (x : Int)) := ⟨H1.out.cells.1, H1.out.cells.2.2.2.1, hc2⟩
  clear H1 HS1 hc2
  go_region_held3 (fun W => W.cell? ⟨bx, 0, none⟩ = some (.pointer (some ⟨bs, 0, none⟩)) ∧ W.cell? ⟨bx, 3, none⟩ = some (.slice (some ⟨gk, off, none⟩) L cap) ∧ W.cell? ⟨gk, off + r, none⟩ = some (.int .i64 (x : Int))) (first | exact k1 | exact ⟨H2.out.cells.1, H2.out.cells.2.2.2.1, H3.out⟩)
    (first
      | (go_at_call 17; refine (granted_is bs m g p (max g x) 0 _ x rfl HM.out HM2.out HP.out HG.out HX.out hE.out hGq.out _ H2.out.xs).mono ?_; rintro e w' ⟨rfl, hh, hs⟩; have H3 := Lib.hid (keepd hs HN2.out k1.2.2); replace HS2 := Lib.hid (HS2.out.trans (StepB.one hs H2.out.bs0)); replace H2 := Lib.hid (H2.out.turnS hs hh); clear hh hs))
  (try clear hHeld)
  go_wp2
  go_ret
  exact ⟨rfl, H2.out, HS2.out⟩

/-- The numbers of two ends, k acts on. -/
structure Num (k m g p G t u sp us : Nat) (way gs : List Nat) : Prop where
  m1 : 1 ≤ m
  m2 : m ≤ 256
  e1 : sp = p
  e2 : us = u
  e3 : p = t + way.sum
  o1 : u ≤ t
  o2 : p ≤ g
  o3 : g ≤ G
  o4 : G ≤ u + m
  o5 : m ≤ g
  q1 : ∀ x ∈ gs, x ≤ G
  q2 : G = m ∨ G ∈ gs
  b1 : p ≤ 256 * k
  b2 : way.length ≤ k
  b3 : gs.length ≤ k
/-- What stands behind k acts. -/
def Stand (B k bx bs bg m : Nat) (W W' : World) : Prop := ∃ g p G t u sp us v1 v2 way gs, Num k m g p G t u sp us way gs ∧ Ends B W' bx bs bg m g p G t u sp us v1 v2 way gs ∧ StepB B W W'

theorem sum_take_le (dn ws : List Nat) : dn.sum ≤ (dn ++ ws).sum := by simp

theorem does_any (B k a n : Nat) (hk : k ≤ 200) (ha : a < 256) (hn : n < 256) (bx bs bg m g p G t u sp us : Nat) (v1 v2 : Value) (way gs : List Nat) (W : World) (hN : Num k m g p G t u sp us way gs)
    (h : Ends B W bx bs bg m g p G t u sp us v1 v2 way gs) :
    Calls Try.prog 27 #[.pointer (some ⟨bx, 0, none⟩), .agg #[.int .u8 (a : Int), .int .u8 (n : Int)]] W fun e W' => e = .returned (.bool true) ∧ Stand B (k + 1) bx bs bg m W W' := by
  obtain ⟨m1, m2, rfl, rfl, e3, o1, o2, o3, o4, o5, q1, q2, b1, b2, b3⟩ := hN
  have hc : a ≤ 2 ∨ a = 3 ∨ a = 4 ∨ a = 5 ∨ a = 6 ∨ a = 7 ∨ a = 8 ∨ 8 < a := by omega
  rcases hc with hc | hc
  · by_cases hle : n ≤ g - sp
    · refine (does_spend B n (a : Int) (by omega) hn bx bs bg m g sp G t us sp us v1 v2 way gs m1 o2 (by omega) (by omega) (by omega) W h hle).mono ?_
      rintro e W' ⟨rfl, v', hE, hs⟩
      exact ⟨rfl, _, _, _, _, _, _, _, _, _, _, _, ⟨m1, m2, rfl, rfl, by simp; omega, o1, by omega, o3, o4, o5, q1, q2, by omega, by simp; omega, by omega⟩, hE, hs⟩
    · refine (does_over B n (a : Int) (by omega) hn bx bs bg m g sp G t us sp us v1 v2 way gs m1 o2 (by omega) W h (by omega)).mono ?_
      rintro e W' ⟨rfl, hE, hs⟩
      exact ⟨rfl, _, _, _, _, _, _, _, _, _, _, _, ⟨m1, m2, rfl, rfl, e3, o1, o2, o3, o4, o5, q1, q2, by omega, by omega, by omega⟩, hE, hs⟩
  · have take : ∀ a' : Int, a' = 3 ∨ a' = 4 → Calls Try.prog 27 #[.pointer (some ⟨bx, 0, none⟩), .agg #[.int .u8 a', .int .u8 (n : Int)]] W fun e W' => e = .returned (.bool true) ∧ Stand B (k + 1) bx bs bg m W W' := by
      intro a' ha'
      refine (does_take B n a' ha' hn bx bs bg m g sp G t us sp us v1 v2 way gs m1 (by omega) (by omega) W h).mono ?_
      rintro e W' ⟨rfl, v', dn, ws, hw, _, hE, hs⟩
      subst hw
      simp only [List.sum_append, List.length_append] at e3 b2
      exact ⟨rfl, _, _, _, _, _, _, _, _, _, _, _, ⟨m1, m2, rfl, rfl, by omega, by omega, o2, o3, o4, o5, q1, q2, by omega, by omega, by omega⟩, hE, hs⟩
    have use : ∀ a' : Int, a' = 5 ∨ a' = 6 → Calls Try.prog 27 #[.pointer (some ⟨bx, 0, none⟩), .agg #[.int .u8 a', .int .u8 (n : Int)]] W fun e W' => e = .returned (.bool true) ∧ Stand B (k + 1) bx bs bg m W W' := by
      intro a' ha'
      refine (does_use B n a' ha' hn bx bs bg m g sp G t us sp us v1 v2 way gs m1 o1 (by omega) (by omega) W h).mono ?_
      rintro e W' ⟨rfl, hE, hs⟩
      exact ⟨rfl, _, _, _, _, _, _, _, _, _, _, _, ⟨m1, m2, rfl, rfl, e3, by omega, o2, o3, by omega, o5, q1, q2, by omega, by omega, by omega⟩, hE, hs⟩
    rcases hc with rfl | rfl | rfl | rfl | rfl | rfl | hc
    · exact take 3 (.inl rfl)
    · exact take 4 (.inr rfl)
    · exact use 5 (.inl rfl)
    · exact use 6 (.inr rfl)
    · refine (does_grant B n 7 rfl hn bx bs bg m g sp G t us sp us v1 v2 way gs m1 (by omega) o4 (by omega) (by omega) W h).mono ?_
      rintro e W' ⟨rfl, v', hE, hs⟩
      by_cases hd : max (m / 2) 1 ≤ us + m - G
      · have h1 : due m G us = true := decide_eq_true hd
        have h2 : dueN m G us = us + m := if_pos hd
        have h3 : dueG m G us = us + m := if_pos hd
        rw [h1, if_pos rfl, h2, h3] at hE
        exact ⟨rfl, _, _, _, _, _, _, _, _, _, _, _, ⟨m1, m2, rfl, rfl, e3, o1, o2, by omega, by omega, o5, fun x hx => by rcases List.mem_append.1 hx with h | h; (have := q1 x h; omega); (simp at h; omega), .inr (by simp), by omega, by omega, by simp; omega⟩, hE, hs⟩
      · have h1 : due m G us = false := decide_eq_false hd
        have h3 : dueG m G us = G := if_neg hd
        rw [h1, if_neg (by simp), h3] at hE
        exact ⟨rfl, _, _, _, _, _, _, _, _, _, _, _, ⟨m1, m2, rfl, rfl, e3, o1, o2, by omega, by omega, o5, q1, q2, by omega, by omega, by omega⟩, hE, hs⟩
    · by_cases hg : gs = []
      · subst hg
        refine (does_none B n hn bx bs bg m g sp G t us sp us v1 v2 way W h).mono ?_
        rintro e W' ⟨rfl, hE, hs⟩
        exact ⟨rfl, _, _, _, _, _, _, _, _, _, _, _, ⟨m1, m2, rfl, rfl, e3, o1, o2, o3, o4, o5, q1, q2, by omega, by omega, by omega⟩, hE, hs⟩
      · have hl : 0 < gs.length := List.length_pos_iff.2 hg
        have hr : n % gs.length < gs.length := Nat.mod_lt _ hl
        have hx := q1 gs[n % gs.length] (List.getElem_mem hr)
        refine (does_granted B n hn bx bs bg m g sp G t us sp us v1 v2 way gs m1 (by omega) o2 (by omega) _ gs[n % gs.length] rfl (List.getElem?_eq_getElem hr) (by omega) (by omega) (by omega) W h).mono ?_
        rintro e W' ⟨rfl, hE, hs⟩
        exact ⟨rfl, _, _, _, _, _, _, _, _, _, _, _, ⟨m1, m2, rfl, rfl, e3, o1, by omega, by omega, o4, by omega, q1, q2, by omega, by omega, by omega⟩, hE, hs⟩
    · refine (does_other B a n hc ha hn bx W).mono ?_
      rintro e W' ⟨rfl, hs⟩
      exact ⟨rfl, _, _, _, _, _, _, _, _, _, _, _, ⟨m1, m2, rfl, rfl, e3, o1, o2, o3, o4, o5, q1, q2, by omega, by omega, by omega⟩, h.same hs, StepB.of hs⟩
end Go.Proofs.Ytnomnhlfenhjdaa
