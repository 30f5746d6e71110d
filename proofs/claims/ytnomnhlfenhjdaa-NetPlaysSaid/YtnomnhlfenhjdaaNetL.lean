/- net: a bit turned twice is as it was. No statement is proved here; nothing is assumed. -/
import Derived.Test.YtnomnhlfenhjdaaNetK
namespace Go.Proofs.Ytnomnhlfenhjdaa
open Go.RowKit Go.Shelf

/-- The byte with one bit turned, as a number. -/
def flipN (x m : Nat) : Nat := (bits BinOp.xor IntKind.u8 (x : Int) (IntKind.u8.wrap (2 ^ m))).toNat

set_option maxRecDepth 100000 in
theorem flipN_all : ∀ m : Fin 8, ∀ x : Fin 256, bits BinOp.xor IntKind.u8 ((x.1 : Nat) : Int) (IntKind.u8.wrap (2 ^ m.1)) = ((flipN x.1 m.1 : Nat) : Int) ∧ flipN x.1 m.1 < 256 ∧ flipN (flipN x.1 m.1) m.1 = x.1 := by decide +kernel
theorem flipV_eq {x m : Nat} (hx : x < 256) (hm : m < 8) : flipV x m = .int .u8 ((flipN x m : Nat) : Int) ∧ flipN x m < 256 ∧ flipN (flipN x m) m = x := by
  have h := flipN_all ⟨m, hm⟩ ⟨x, hx⟩
  exact ⟨congrArg (Value.int .u8) h.1, h.2⟩
end Go.Proofs.Ytnomnhlfenhjdaa
