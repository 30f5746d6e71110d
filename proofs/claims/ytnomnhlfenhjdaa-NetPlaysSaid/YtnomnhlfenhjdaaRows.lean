/-
  No cell of these rows narrows 'for every input' (looked for: loops, veiled, ifaces, maps, wideKeys, modest, calm, conditions, laid).
  DERIVED. THE GIVEN ROWS OF THIS SEAT. 8 by the template 'for every input the law returns true; each argument reads behind the call as it read before'; 0 by the template 'total and deterministic' (their statements: YtnomnhlfenhjdaaTotals.lean).
  GIVEN WITH THE SEED: the statements are not yours to turn. If you find one false, say at which input.
  Laid BY PROGRAM, IN A SANDBOX (cutbox-rows.mjs): the forced cells as the released guide's own fill.sh prints them over the translation e1bbf4716feed513… (all of the seat's roots in one cut). By AI agents, Wed Nov 11 2026. No macro, syntax, notation, axiom, sorry.
-/
import Derived.Test.YtnomnhlfenhjdaaChecked
import GoSem.Claim
import GoSem.ClaimJoined
import GoSem.ClaimMapViews
import Derived.JoinedTies
import Derived.KernelRfl
namespace Go.Proofs.Ytnomnhlfenhjdaa
/- THE CELL 'sum', in the pinned program and in every row, IS THE sha256 OF THE DUMP (.gsa) THAT YtnomnhlfenhjdaaProg.lean LOADS. Nothing in Lean hashes anything: it is a label: what it is worth is what the hold of that sum in a sandbox is worth. -/
noncomputable def Try.pinned : Pinned := { name := "ytnomnhlfenhjdaa", sum := "e1bbf4716feed513a7c78e5c0a0184c48215ef752b08b4a726eb49a5c290b164", checked := Try.checked }
namespace Rows
def none {H : Type} : Left H := { results := [], args := [] }

/-- 'longwirelaw09.CreditPlays': WHATEVER THE INPUT: true; the input reads as it did. -/
def creditPlaysSpec : ChangeSpec := { name := "creditPlays", fn := fun _ => fun
  | [d1, d2] => { results := [.lit (.bool true)], args := [d1, d2] }
  | _ => none }
def creditPlaysRow : OpenClaim := { program := "ytnomnhlfenhjdaa", sum := "e1bbf4716feed513a7c78e5c0a0184c48215ef752b08b4a726eb49a5c290b164", func := "longwire/longwirelaw09.CreditPlays", spec := "creditPlays", apart := false }
def CreditPlaysSaid : Prop := creditPlaysRow.holds Try.pinned (OpenSpec.ofChange creditPlaysSpec)

/-- ITS FALSE NEIGHBOUR: 'it returns false'. Refute it at one input. -/
def creditPlaysWrong : ChangeSpec := { name := "creditPlays", fn := fun _ => fun
  | [d1, d2] => { results := [.lit (.bool false)], args := [d1, d2] }
  | _ => none }
def CreditPlaysWrongFalsely : Prop := creditPlaysRow.holds Try.pinned (OpenSpec.ofChange creditPlaysWrong)

/-- 'longwirelaw09.CreditBounded': WHATEVER THE INPUT: true; the input reads as it did. -/
def creditBoundedSpec : ChangeSpec := { name := "creditBounded", fn := fun _ => fun
  | [d1, d2] => { results := [.lit (.bool true)], args := [d1, d2] }
  | _ => none }
def creditBoundedRow : OpenClaim := { program := "ytnomnhlfenhjdaa", sum := "e1bbf4716feed513a7c78e5c0a0184c48215ef752b08b4a726eb49a5c290b164", func := "longwire/longwirelaw09.CreditBounded", spec := "creditBounded", apart := false }
def CreditBoundedSaid : Prop := creditBoundedRow.holds Try.pinned (OpenSpec.ofChange creditBoundedSpec)

/-- ITS FALSE NEIGHBOUR: 'it returns false'. Refute it at one input. -/
def creditBoundedWrong : ChangeSpec := { name := "creditBounded", fn := fun _ => fun
  | [d1, d2] => { results := [.lit (.bool false)], args := [d1, d2] }
  | _ => none }
def CreditBoundedWrongFalsely : Prop := creditBoundedRow.holds Try.pinned (OpenSpec.ofChange creditBoundedWrong)

/-- 'longwirelaw09.CreditRefused': WHATEVER THE INPUT: true; the input reads as it did. -/
def creditRefusedSpec : ChangeSpec := { name := "creditRefused", fn := fun _ => fun
  | [d1, d2, d3, d4] => { results := [.lit (.bool true)], args := [d1, d2, d3, d4] }
  | _ => none }
def creditRefusedRow : OpenClaim := { program := "ytnomnhlfenhjdaa", sum := "e1bbf4716feed513a7c78e5c0a0184c48215ef752b08b4a726eb49a5c290b164", func := "longwire/longwirelaw09.CreditRefused", spec := "creditRefused", apart := false }
def CreditRefusedSaid : Prop := creditRefusedRow.holds Try.pinned (OpenSpec.ofChange creditRefusedSpec)

/-- ITS FALSE NEIGHBOUR: 'it returns false'. Refute it at one input. -/
def creditRefusedWrong : ChangeSpec := { name := "creditRefused", fn := fun _ => fun
  | [d1, d2, d3, d4] => { results := [.lit (.bool false)], args := [d1, d2, d3, d4] }
  | _ => none }
def CreditRefusedWrongFalsely : Prop := creditRefusedRow.holds Try.pinned (OpenSpec.ofChange creditRefusedWrong)

/-- 'longwirelaw09.CreditKnown': WHATEVER THE INPUT: true; the input reads as it did. -/
def creditKnownSpec : ChangeSpec := { name := "creditKnown", fn := fun _ => fun
  | [] => { results := [.lit (.bool true)], args := [] }
  | _ => none }
def creditKnownRow : OpenClaim := { program := "ytnomnhlfenhjdaa", sum := "e1bbf4716feed513a7c78e5c0a0184c48215ef752b08b4a726eb49a5c290b164", func := "longwire/longwirelaw09.CreditKnown", spec := "creditKnown", apart := false }
def CreditKnownSaid : Prop := creditKnownRow.holds Try.pinned (OpenSpec.ofChange creditKnownSpec)

/-- ITS FALSE NEIGHBOUR: 'it returns false'. Refute it at one input. -/
def creditKnownWrong : ChangeSpec := { name := "creditKnown", fn := fun _ => fun
  | [] => { results := [.lit (.bool false)], args := [] }
  | _ => none }
def CreditKnownWrongFalsely : Prop := creditKnownRow.holds Try.pinned (OpenSpec.ofChange creditKnownWrong)

/-- 'longwirelaw11.NetBits': WHATEVER THE INPUT: true; the input reads as it did. -/
def netBitsSpec : ChangeSpec := { name := "netBits", fn := fun _ => fun
  | [d1, d2, d3] => { results := [.lit (.bool true)], args := [d1, d2, d3] }
  | _ => none }
def netBitsRow : OpenClaim := { program := "ytnomnhlfenhjdaa", sum := "e1bbf4716feed513a7c78e5c0a0184c48215ef752b08b4a726eb49a5c290b164", func := "longwire/longwirelaw11.NetBits", spec := "netBits", apart := false }
def NetBitsSaid : Prop := netBitsRow.holds Try.pinned (OpenSpec.ofChange netBitsSpec)

/-- ITS FALSE NEIGHBOUR: 'it returns false'. Refute it at one input. -/
def netBitsWrong : ChangeSpec := { name := "netBits", fn := fun _ => fun
  | [d1, d2, d3] => { results := [.lit (.bool false)], args := [d1, d2, d3] }
  | _ => none }
def NetBitsWrongFalsely : Prop := netBitsRow.holds Try.pinned (OpenSpec.ofChange netBitsWrong)

/-- 'longwirelaw11.NetNothing': WHATEVER THE INPUT: true; the input reads as it did. -/
def netNothingSpec : ChangeSpec := { name := "netNothing", fn := fun _ => fun
  | [d] => { results := [.lit (.bool true)], args := [d] }
  | _ => none }
def netNothingRow : OpenClaim := { program := "ytnomnhlfenhjdaa", sum := "e1bbf4716feed513a7c78e5c0a0184c48215ef752b08b4a726eb49a5c290b164", func := "longwire/longwirelaw11.NetNothing", spec := "netNothing", unfollowed := true, recurses := true, apart := false }
def NetNothingSaid : Prop := netNothingRow.holds Try.pinned (OpenSpec.ofChange netNothingSpec)

/-- ITS FALSE NEIGHBOUR: 'it returns false'. Refute it at one input. -/
def netNothingWrong : ChangeSpec := { name := "netNothing", fn := fun _ => fun
  | [d] => { results := [.lit (.bool false)], args := [d] }
  | _ => none }
def NetNothingWrongFalsely : Prop := netNothingRow.holds Try.pinned (OpenSpec.ofChange netNothingWrong)

/-- 'longwirelaw11.NetKnown': WHATEVER THE INPUT: true; the input reads as it did. -/
def netKnownSpec : ChangeSpec := { name := "netKnown", fn := fun _ => fun
  | [] => { results := [.lit (.bool true)], args := [] }
  | _ => none }
def netKnownRow : OpenClaim := { program := "ytnomnhlfenhjdaa", sum := "e1bbf4716feed513a7c78e5c0a0184c48215ef752b08b4a726eb49a5c290b164", func := "longwire/longwirelaw11.NetKnown", spec := "netKnown", unfollowed := true, recurses := true, apart := false }
def NetKnownSaid : Prop := netKnownRow.holds Try.pinned (OpenSpec.ofChange netKnownSpec)

/-- ITS FALSE NEIGHBOUR: 'it returns false'. Refute it at one input. -/
def netKnownWrong : ChangeSpec := { name := "netKnown", fn := fun _ => fun
  | [] => { results := [.lit (.bool false)], args := [] }
  | _ => none }
def NetKnownWrongFalsely : Prop := netKnownRow.holds Try.pinned (OpenSpec.ofChange netKnownWrong)

/-- 'longwirelaw11.NetPlays': WHATEVER THE INPUT: true; the input reads as it did. -/
def netPlaysSpec : ChangeSpec := { name := "netPlays", fn := fun _ => fun
  | [d] => { results := [.lit (.bool true)], args := [d] }
  | _ => none }
def netPlaysRow : OpenClaim := { program := "ytnomnhlfenhjdaa", sum := "e1bbf4716feed513a7c78e5c0a0184c48215ef752b08b4a726eb49a5c290b164", func := "longwire/longwirelaw11.NetPlays", spec := "netPlays", unfollowed := true, recurses := true, apart := false }
def NetPlaysSaid : Prop := netPlaysRow.holds Try.pinned (OpenSpec.ofChange netPlaysSpec)

/-- ITS FALSE NEIGHBOUR: 'it returns false'. Refute it at one input. -/
def netPlaysWrong : ChangeSpec := { name := "netPlays", fn := fun _ => fun
  | [d] => { results := [.lit (.bool false)], args := [d] }
  | _ => none }
def NetPlaysWrongFalsely : Prop := netPlaysRow.holds Try.pinned (OpenSpec.ofChange netPlaysWrong)

/- THE SECOND FORM. 'bulk': how many values and letters a reading holds, each counted each time it is reached (what is shared counts as often as it is met; a slice's spare places count too). A statement '..UptoSaid' is the law's where the arguments, and the package variables that the reading takes, are together of bulk at most 1048576: NARROWER than '..Said'. Prove '..Said' where nothing that the law and all that it calls make is longer than what came in: it says more and counts as full. Else prove '..UptoSaid'. A law counts once. -/
mutual
def uptoBulk {H : Type} : DataW H → Nat
  | .lit (.string bytes) => bytes.length + 1
  | .lit _ => 1
  | .nil => 1
  | .ptr d => uptoBulk d + 1
  | .slice elems spare => uptoBulkAll elems + uptoBulkAll spare + 1
  | .agg parts => uptoBulkAll parts + 1
  | .iface _ d => uptoBulk d + 1
  | .map entries => uptoBulkEntries entries + 1
  | .held _ => 1
def uptoBulkAll {H : Type} : List (DataW H) → Nat
  | [] => 0
  | d :: r => uptoBulk d + uptoBulkAll r
def uptoBulkEntries {H : Type} : List (Lit × DataW H) → Nat
  | [] => 0
  | x :: r => uptoBulkEntry x + uptoBulkEntries r
def uptoBulkEntry {H : Type} : Lit × DataW H → Nat
  | (.string bytes, d) => bytes.length + uptoBulk d + 1
  | (_, d) => uptoBulk d + 1
 end
def uptoSmall : (H : Type) → List (DataW H) → Bool := fun _ ds => decide (uptoBulkAll ds ≤ 1048576)
def OpenSpec.upto (s : _root_.Go.ChangeSpec) : _root_.Go.OpenSpec := { _root_.Go.OpenSpec.ofChange s with cond := some uptoSmall }

/-- 'longwirelaw09.CreditPlays', WHERE WHAT IT READS IS OF BULK AT MOST 1048576: true; the input reads as it did. -/
def creditPlaysUptoRow : OpenClaim := { program := "ytnomnhlfenhjdaa", sum := "e1bbf4716feed513a7c78e5c0a0184c48215ef752b08b4a726eb49a5c290b164", func := "longwire/longwirelaw09.CreditPlays", spec := "creditPlays", apart := false, narrowed := true }
def CreditPlaysUptoSaid : Prop := creditPlaysUptoRow.holds Try.pinned (OpenSpec.upto creditPlaysSpec)

/-- 'longwirelaw09.CreditBounded', WHERE WHAT IT READS IS OF BULK AT MOST 1048576: true; the input reads as it did. -/
def creditBoundedUptoRow : OpenClaim := { program := "ytnomnhlfenhjdaa", sum := "e1bbf4716feed513a7c78e5c0a0184c48215ef752b08b4a726eb49a5c290b164", func := "longwire/longwirelaw09.CreditBounded", spec := "creditBounded", apart := false, narrowed := true }
def CreditBoundedUptoSaid : Prop := creditBoundedUptoRow.holds Try.pinned (OpenSpec.upto creditBoundedSpec)

/-- 'longwirelaw09.CreditRefused', WHERE WHAT IT READS IS OF BULK AT MOST 1048576: true; the input reads as it did. -/
def creditRefusedUptoRow : OpenClaim := { program := "ytnomnhlfenhjdaa", sum := "e1bbf4716feed513a7c78e5c0a0184c48215ef752b08b4a726eb49a5c290b164", func := "longwire/longwirelaw09.CreditRefused", spec := "creditRefused", apart := false, narrowed := true }
def CreditRefusedUptoSaid : Prop := creditRefusedUptoRow.holds Try.pinned (OpenSpec.upto creditRefusedSpec)

/-- 'longwirelaw09.CreditKnown', WHERE WHAT IT READS IS OF BULK AT MOST 1048576: true; the input reads as it did. -/
def creditKnownUptoRow : OpenClaim := { program := "ytnomnhlfenhjdaa", sum := "e1bbf4716feed513a7c78e5c0a0184c48215ef752b08b4a726eb49a5c290b164", func := "longwire/longwirelaw09.CreditKnown", spec := "creditKnown", apart := false, narrowed := true }
def CreditKnownUptoSaid : Prop := creditKnownUptoRow.holds Try.pinned (OpenSpec.upto creditKnownSpec)

/-- 'longwirelaw11.NetBits', WHERE WHAT IT READS IS OF BULK AT MOST 1048576: true; the input reads as it did. -/
def netBitsUptoRow : OpenClaim := { program := "ytnomnhlfenhjdaa", sum := "e1bbf4716feed513a7c78e5c0a0184c48215ef752b08b4a726eb49a5c290b164", func := "longwire/longwirelaw11.NetBits", spec := "netBits", apart := false, narrowed := true }
def NetBitsUptoSaid : Prop := netBitsUptoRow.holds Try.pinned (OpenSpec.upto netBitsSpec)

/-- 'longwirelaw11.NetNothing', WHERE WHAT IT READS IS OF BULK AT MOST 1048576: true; the input reads as it did. -/
def netNothingUptoRow : OpenClaim := { program := "ytnomnhlfenhjdaa", sum := "e1bbf4716feed513a7c78e5c0a0184c48215ef752b08b4a726eb49a5c290b164", func := "longwire/longwirelaw11.NetNothing", spec := "netNothing", unfollowed := true, recurses := true, apart := false, narrowed := true }
def NetNothingUptoSaid : Prop := netNothingUptoRow.holds Try.pinned (OpenSpec.upto netNothingSpec)

/-- 'longwirelaw11.NetKnown', WHERE WHAT IT READS IS OF BULK AT MOST 1048576: true; the input reads as it did. -/
def netKnownUptoRow : OpenClaim := { program := "ytnomnhlfenhjdaa", sum := "e1bbf4716feed513a7c78e5c0a0184c48215ef752b08b4a726eb49a5c290b164", func := "longwire/longwirelaw11.NetKnown", spec := "netKnown", unfollowed := true, recurses := true, apart := false, narrowed := true }
def NetKnownUptoSaid : Prop := netKnownUptoRow.holds Try.pinned (OpenSpec.upto netKnownSpec)

/-- 'longwirelaw11.NetPlays', WHERE WHAT IT READS IS OF BULK AT MOST 1048576: true; the input reads as it did. -/
def netPlaysUptoRow : OpenClaim := { program := "ytnomnhlfenhjdaa", sum := "e1bbf4716feed513a7c78e5c0a0184c48215ef752b08b4a726eb49a5c290b164", func := "longwire/longwirelaw11.NetPlays", spec := "netPlays", unfollowed := true, recurses := true, apart := false, narrowed := true }
def NetPlaysUptoSaid : Prop := netPlaysUptoRow.holds Try.pinned (OpenSpec.upto netPlaysSpec)

end Rows
end Go.Proofs.Ytnomnhlfenhjdaa
