/- CreditPlays: a limit that may not be; a slice of calls, opened. No statement is proved here; nothing is assumed. -/
import Derived.Test.YtnomnhlfenhjdaaCreH
namespace Go.Proofs.Ytnomnhlfenhjdaa
open Go.RowKit Go.Shelf Go.ChangeShapes Go.WideShapes Go.Deep
set_option linter.unusedVariables false
attribute [local go_sem] Oper.semAt_some

set_option maxRecDepth 100000 in
theorem plays_bad (n : Int) (h : n < 1 ∨ 8192 < n) (q : Option Addr) (N cap : Nat) (w : World) :
    Calls Try.prog 3 #[.int .i64 n, .slice q N cap] w fun e w' => e = .returned (.bool true) ∧ Step [] w w' := by
  go_enter Try.func3, Try.ntmps3
  go_wp2_with fail
  refine (newSp_bad n h _).mono ?_
  rintro e w1 ⟨rfl, hs⟩
  have HS := Lib.hid hs
  clear hs
  go_wp2_with fail
  refine (newGv_bad n h _).mono ?_
  rintro e w2 ⟨rfl, hs⟩
  replace HS := Lib.hid (HS.out.trans hs)
  clear hs
  go_wp2_with (first | (go_at_call 13; refine (may_bad n h _).mono ?_; rintro e w' ⟨rfl, rfl⟩) | (go_at_call 14; refine (wakes_any _).mono ?_; rintro e w8 ⟨rfl, hs8⟩; have HS8 := Lib.hid hs8; clear hs8))
  go_ret
  exact ⟨rfl, HS.out.trans HS8.out⟩

theorem plays_all (n : Int) (q : Option Addr) (N cap : Nat) (hN : N ≤ cap) (hcap : cap ≤ maxLen) (V : Nat → Nat → Value) (w : World) (hrow : RowOf w q N 3 V)
    (hV : ∀ i, i < N → ∃ (x y : Int) (z : Nat), V i 0 = .int .i64 x ∧ V i 1 = .int .i64 y ∧ V i 2 = .int .u64 (z : Int) ∧ y < 9223372036854775808 ∧ z < 18446744073709551616) :
    Calls Try.prog 3 #[.int .i64 n, .slice q N cap] w fun e w' => e = .returned (.bool true) ∧ Step [] w w' := by
  by_cases h : n < 1 ∨ 8192 < n
  · exact plays_bad n h q N cap w
  · obtain ⟨m, rfl⟩ := Int.eq_ofNat_of_zero_le (show 0 ≤ n by omega)
    exact plays_walk m (by omega) (by omega) q N cap hN hcap V w hrow hV

section
variable {H : Type} {enc : TypeId × Value → H} {W : World} {base : Nat} {spare : Nat → Bool} {held : Bool}
set_option maxRecDepth 100000 in
theorem open_calls {r : Reach} {b0 : Nat} {v : Value} {d : DataW H} {p : List MemPlace} (hv : Value.okWide Try.prog W r b0 22 v) (h : DataW.Trod enc Try.prog W base spare held 22 v d p) :
    ∃ (q : Option Addr) (n cap : Nat) (V : Nat → Nat → Value), v = .slice q n cap ∧ n ≤ cap ∧ cap ≤ maxLen ∧ RowOf W q n 3 V ∧
      ∀ i, i < n → ∃ (x y : Int) (z : Nat), V i 0 = .int .i64 x ∧ V i 1 = .int .i64 y ∧ V i 2 = .int .u64 (z : Int) ∧ y < 9223372036854775808 ∧ z < 18446744073709551616 := by
  obtain ⟨q, n, cap, V, rfl, h1, h2, h3, h4⟩ := open_elems (k := 3) (by omega) Try.underlying22 (by kernel_rfl) hv h
  refine ⟨q, n, cap, V, rfl, h1, h2, h3, fun i hi => ?_⟩
  obtain ⟨fuel, cs, y, hl, hc, ht⟩ := h4 i hi
  obtain ⟨v0, _, _, e0, t0⟩ := elem_field Try.underlying40 (by kernel_rfl) hl ht 0 _ rfl
  obtain ⟨v1, _, _, e1, t1⟩ := elem_field Try.underlying40 (by kernel_rfl) hl ht 1 _ rfl
  obtain ⟨v2, _, _, e2, t2⟩ := elem_field Try.underlying40 (by kernel_rfl) hl ht 2 _ rfl
  obtain ⟨x, rfl, w0⟩ := int_cell Try.underlying3 t0
  obtain ⟨y, rfl, w1⟩ := int_cell Try.underlying3 t1
  obtain ⟨z, rfl, w2⟩ := int_cell Try.underlying38 t2
  have g0 := hc 0 (by omega)
  have g1 := hc 1 (by omega)
  have g2 := hc 2 (by omega)
  rw [e0] at g0
  rw [e1] at g1
  rw [e2] at g2
  have b1 := bounds_i64 w1
  have b2 := bounds_u64 w2
  obtain ⟨z, rfl⟩ := Int.eq_ofNat_of_zero_le b2.1
  exact ⟨x, y, z, (Option.some.inj g0).symm, (Option.some.inj g1).symm, (Option.some.inj g2).symm, by omega, by omega⟩
end
end Go.Proofs.Ytnomnhlfenhjdaa
