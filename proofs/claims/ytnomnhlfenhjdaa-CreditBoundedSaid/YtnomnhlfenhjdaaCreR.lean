/- CreditBounded: as the law's frame wants it. No statement is proved here; nothing is assumed. -/
import Derived.Test.YtnomnhlfenhjdaaCreO
import Derived.Test.YtnomnhlfenhjdaaCreP
namespace Go.Proofs.Ytnomnhlfenhjdaa
open Go.RowKit Go.Shelf
set_option linter.unusedVariables false
theorem bounded_law (a : Int) (b : 0 ≤ a ∧ a ≤ 255) (q : Option Addr) (N cap : Nat) (hN : N ≤ cap) (hcap : cap ≤ maxLen) (V : Nat → Nat → Value) (w : World) (hrow : RowOf w q N 2 V)
    (hV : ∀ i, i < N → ∃ (x y : Nat), V i 0 = .int .u8 (x : Int) ∧ V i 1 = .int .u8 (y : Int) ∧ x < 256 ∧ y < 256) :
    Calls Try.prog 4 #[.int .u8 a, .slice q N cap] w fun e w' => e = .returned (.bool true) ∧ Step [] w w' := by
  obtain ⟨n, rfl⟩ := Int.eq_ofNat_of_zero_le b.1
  exact bounded_walk n (by omega) q N cap hN hcap V w hrow hV
end Go.Proofs.Ytnomnhlfenhjdaa
