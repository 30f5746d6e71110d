/-
  No cell of these rows narrows 'for every input' (looked for: loops, veiled, ifaces, maps, wideKeys, modest, calm, conditions, laid).
  DERIVED. THE GIVEN ROWS OF THIS SEAT. 14 by the template 'for every input the law returns true; each argument reads behind the call as it read before'; 0 by the template 'total and deterministic' (their statements: YtbainekfbonbjaaTotals.lean).
  GIVEN WITH THE SEED: the statements are not yours to turn. If you find one false, say at which input.
  Laid BY PROGRAM, IN A SANDBOX (cutbox-rows.mjs): the forced cells as the released guide's own fill.sh prints them over the translation 01aedb9206871593… (all of the seat's roots in one cut). By AI agents, Wed Nov 11 2026. No macro, syntax, notation, axiom, sorry.
-/
import Derived.Test.YtbainekfbonbjaaChecked
import GoSem.Claim
import GoSem.ClaimJoined
import GoSem.ClaimMapViews
import Derived.JoinedTies
import Derived.KernelRfl
namespace Go.Proofs.Ytbainekfbonbjaa
/- THE CELL 'sum', in the pinned program and in every row, IS THE sha256 OF THE DUMP (.gsa) THAT YtbainekfbonbjaaProg.lean LOADS. Nothing in Lean hashes anything: it is a label: what it is worth is what the hold of that sum in a sandbox is worth. -/
noncomputable def Try.pinned : Pinned := { name := "ytbainekfbonbjaa", sum := "01aedb92068715934576cdaecd3f29014bde675f6a99236c2edbec89f1c24356", checked := Try.checked }
namespace Rows
def none {H : Type} : Left H := { results := [], args := [] }

/-- 'longwirelaw05.SeqAsked': WHATEVER THE INPUT: true; the input reads as it did. -/
def seqAskedSpec : ChangeSpec := { name := "seqAsked", fn := fun _ => fun
  | [d1, d2, d3, d4] => { results := [.lit (.bool true)], args := [d1, d2, d3, d4] }
  | _ => none }
def seqAskedRow : OpenClaim := { program := "ytbainekfbonbjaa", sum := "01aedb92068715934576cdaecd3f29014bde675f6a99236c2edbec89f1c24356", func := "longwire/longwirelaw05.SeqAsked", spec := "seqAsked", unfollowed := true, recurses := true, apart := false }
def SeqAskedSaid : Prop := seqAskedRow.holds Try.pinned (OpenSpec.ofChange seqAskedSpec)

/-- ITS FALSE NEIGHBOUR: 'it returns false'. Refute it at one input. -/
def seqAskedWrong : ChangeSpec := { name := "seqAsked", fn := fun _ => fun
  | [d1, d2, d3, d4] => { results := [.lit (.bool false)], args := [d1, d2, d3, d4] }
  | _ => none }
def SeqAskedWrongFalsely : Prop := seqAskedRow.holds Try.pinned (OpenSpec.ofChange seqAskedWrong)

/-- 'longwirelaw05.SeqSpans': WHATEVER THE INPUT: true; the input reads as it did. -/
def seqSpansSpec : ChangeSpec := { name := "seqSpans", fn := fun _ => fun
  | [d1, d2, d3] => { results := [.lit (.bool true)], args := [d1, d2, d3] }
  | _ => none }
def seqSpansRow : OpenClaim := { program := "ytbainekfbonbjaa", sum := "01aedb92068715934576cdaecd3f29014bde675f6a99236c2edbec89f1c24356", func := "longwire/longwirelaw05.SeqSpans", spec := "seqSpans", unfollowed := true, recurses := true, apart := false }
def SeqSpansSaid : Prop := seqSpansRow.holds Try.pinned (OpenSpec.ofChange seqSpansSpec)

/-- ITS FALSE NEIGHBOUR: 'it returns false'. Refute it at one input. -/
def seqSpansWrong : ChangeSpec := { name := "seqSpans", fn := fun _ => fun
  | [d1, d2, d3] => { results := [.lit (.bool false)], args := [d1, d2, d3] }
  | _ => none }
def SeqSpansWrongFalsely : Prop := seqSpansRow.holds Try.pinned (OpenSpec.ofChange seqSpansWrong)

/-- 'longwirelaw05.SeqMasks': WHATEVER THE INPUT: true; the input reads as it did. -/
def seqMasksSpec : ChangeSpec := { name := "seqMasks", fn := fun _ => fun
  | [d1, d2] => { results := [.lit (.bool true)], args := [d1, d2] }
  | _ => none }
def seqMasksRow : OpenClaim := { program := "ytbainekfbonbjaa", sum := "01aedb92068715934576cdaecd3f29014bde675f6a99236c2edbec89f1c24356", func := "longwire/longwirelaw05.SeqMasks", spec := "seqMasks", unfollowed := true, recurses := true, apart := false }
def SeqMasksSaid : Prop := seqMasksRow.holds Try.pinned (OpenSpec.ofChange seqMasksSpec)

/-- ITS FALSE NEIGHBOUR: 'it returns false'. Refute it at one input. -/
def seqMasksWrong : ChangeSpec := { name := "seqMasks", fn := fun _ => fun
  | [d1, d2] => { results := [.lit (.bool false)], args := [d1, d2] }
  | _ => none }
def SeqMasksWrongFalsely : Prop := seqMasksRow.holds Try.pinned (OpenSpec.ofChange seqMasksWrong)

/-- 'longwirelaw05.SeqGives': WHATEVER THE INPUT: true; the input reads as it did. -/
def seqGivesSpec : ChangeSpec := { name := "seqGives", fn := fun _ => fun
  | [d1, d2] => { results := [.lit (.bool true)], args := [d1, d2] }
  | _ => none }
def seqGivesRow : OpenClaim := { program := "ytbainekfbonbjaa", sum := "01aedb92068715934576cdaecd3f29014bde675f6a99236c2edbec89f1c24356", func := "longwire/longwirelaw05.SeqGives", spec := "seqGives", unfollowed := true, recurses := true, apart := false }
def SeqGivesSaid : Prop := seqGivesRow.holds Try.pinned (OpenSpec.ofChange seqGivesSpec)

/-- ITS FALSE NEIGHBOUR: 'it returns false'. Refute it at one input. -/
def seqGivesWrong : ChangeSpec := { name := "seqGives", fn := fun _ => fun
  | [d1, d2] => { results := [.lit (.bool false)], args := [d1, d2] }
  | _ => none }
def SeqGivesWrongFalsely : Prop := seqGivesRow.holds Try.pinned (OpenSpec.ofChange seqGivesWrong)

/-- 'longwirelaw05.SeqOnce': WHATEVER THE INPUT: true; the input reads as it did. -/
def seqOnceSpec : ChangeSpec := { name := "seqOnce", fn := fun _ => fun
  | [d1, d2] => { results := [.lit (.bool true)], args := [d1, d2] }
  | _ => none }
def seqOnceRow : OpenClaim := { program := "ytbainekfbonbjaa", sum := "01aedb92068715934576cdaecd3f29014bde675f6a99236c2edbec89f1c24356", func := "longwire/longwirelaw05.SeqOnce", spec := "seqOnce", unfollowed := true, recurses := true, apart := false }
def SeqOnceSaid : Prop := seqOnceRow.holds Try.pinned (OpenSpec.ofChange seqOnceSpec)

/-- ITS FALSE NEIGHBOUR: 'it returns false'. Refute it at one input. -/
def seqOnceWrong : ChangeSpec := { name := "seqOnce", fn := fun _ => fun
  | [d1, d2] => { results := [.lit (.bool false)], args := [d1, d2] }
  | _ => none }
def SeqOnceWrongFalsely : Prop := seqOnceRow.holds Try.pinned (OpenSpec.ofChange seqOnceWrong)

/-- 'longwirelaw06.WindowPlays': WHATEVER THE INPUT: true; the input reads as it did. -/
def windowPlaysSpec : ChangeSpec := { name := "windowPlays", fn := fun _ => fun
  | [d1, d2, d3, d4] => { results := [.lit (.bool true)], args := [d1, d2, d3, d4] }
  | _ => none }
def windowPlaysRow : OpenClaim := { program := "ytbainekfbonbjaa", sum := "01aedb92068715934576cdaecd3f29014bde675f6a99236c2edbec89f1c24356", func := "longwire/longwirelaw06.WindowPlays", spec := "windowPlays", inPlace := ["maps.clone"], unfollowed := true, recurses := true, apart := false }
def WindowPlaysSaid : Prop := windowPlaysRow.holds Try.pinned (OpenSpec.ofChange windowPlaysSpec)

/-- ITS FALSE NEIGHBOUR: 'it returns false'. Refute it at one input. -/
def windowPlaysWrong : ChangeSpec := { name := "windowPlays", fn := fun _ => fun
  | [d1, d2, d3, d4] => { results := [.lit (.bool false)], args := [d1, d2, d3, d4] }
  | _ => none }
def WindowPlaysWrongFalsely : Prop := windowPlaysRow.holds Try.pinned (OpenSpec.ofChange windowPlaysWrong)

/-- 'longwirelaw05.SeqKnown': WHATEVER THE INPUT: true; the input reads as it did. -/
def seqKnownSpec : ChangeSpec := { name := "seqKnown", fn := fun _ => fun
  | [] => { results := [.lit (.bool true)], args := [] }
  | _ => none }
def seqKnownRow : OpenClaim := { program := "ytbainekfbonbjaa", sum := "01aedb92068715934576cdaecd3f29014bde675f6a99236c2edbec89f1c24356", func := "longwire/longwirelaw05.SeqKnown", spec := "seqKnown", unfollowed := true, recurses := true, apart := false }
def SeqKnownSaid : Prop := seqKnownRow.holds Try.pinned (OpenSpec.ofChange seqKnownSpec)

/-- ITS FALSE NEIGHBOUR: 'it returns false'. Refute it at one input. -/
def seqKnownWrong : ChangeSpec := { name := "seqKnown", fn := fun _ => fun
  | [] => { results := [.lit (.bool false)], args := [] }
  | _ => none }
def SeqKnownWrongFalsely : Prop := seqKnownRow.holds Try.pinned (OpenSpec.ofChange seqKnownWrong)

/-- 'longwirelaw06.WindowKnown': WHATEVER THE INPUT: true; the input reads as it did. -/
def windowKnownSpec : ChangeSpec := { name := "windowKnown", fn := fun _ => fun
  | [] => { results := [.lit (.bool true)], args := [] }
  | _ => none }
def windowKnownRow : OpenClaim := { program := "ytbainekfbonbjaa", sum := "01aedb92068715934576cdaecd3f29014bde675f6a99236c2edbec89f1c24356", func := "longwire/longwirelaw06.WindowKnown", spec := "windowKnown", inPlace := ["maps.clone"], unfollowed := true, recurses := true, apart := false }
def WindowKnownSaid : Prop := windowKnownRow.holds Try.pinned (OpenSpec.ofChange windowKnownSpec)

/-- ITS FALSE NEIGHBOUR: 'it returns false'. Refute it at one input. -/
def windowKnownWrong : ChangeSpec := { name := "windowKnown", fn := fun _ => fun
  | [] => { results := [.lit (.bool false)], args := [] }
  | _ => none }
def WindowKnownWrongFalsely : Prop := windowKnownRow.holds Try.pinned (OpenSpec.ofChange windowKnownWrong)

/-- 'longwirelaw07.IntakeKnown': WHATEVER THE INPUT: true; the input reads as it did. -/
def intakeKnownSpec : ChangeSpec := { name := "intakeKnown", fn := fun _ => fun
  | [] => { results := [.lit (.bool true)], args := [] }
  | _ => none }
def intakeKnownRow : OpenClaim := { program := "ytbainekfbonbjaa", sum := "01aedb92068715934576cdaecd3f29014bde675f6a99236c2edbec89f1c24356", func := "longwire/longwirelaw07.IntakeKnown", spec := "intakeKnown", inPlace := ["maps.clone"], unfollowed := true, recurses := true, apart := false }
def IntakeKnownSaid : Prop := intakeKnownRow.holds Try.pinned (OpenSpec.ofChange intakeKnownSpec)

/-- ITS FALSE NEIGHBOUR: 'it returns false'. Refute it at one input. -/
def intakeKnownWrong : ChangeSpec := { name := "intakeKnown", fn := fun _ => fun
  | [] => { results := [.lit (.bool false)], args := [] }
  | _ => none }
def IntakeKnownWrongFalsely : Prop := intakeKnownRow.holds Try.pinned (OpenSpec.ofChange intakeKnownWrong)

/-- 'longwirelaw07.IntakeTakes': WHATEVER THE INPUT: true; the input reads as it did. -/
def intakeTakesSpec : ChangeSpec := { name := "intakeTakes", fn := fun _ => fun
  | [d] => { results := [.lit (.bool true)], args := [d] }
  | _ => none }
def intakeTakesRow : OpenClaim := { program := "ytbainekfbonbjaa", sum := "01aedb92068715934576cdaecd3f29014bde675f6a99236c2edbec89f1c24356", func := "longwire/longwirelaw07.IntakeTakes", spec := "intakeTakes", inPlace := ["maps.clone"], unfollowed := true, recurses := true, apart := false }
def IntakeTakesSaid : Prop := intakeTakesRow.holds Try.pinned (OpenSpec.ofChange intakeTakesSpec)

/-- ITS FALSE NEIGHBOUR: 'it returns false'. Refute it at one input. -/
def intakeTakesWrong : ChangeSpec := { name := "intakeTakes", fn := fun _ => fun
  | [d] => { results := [.lit (.bool false)], args := [d] }
  | _ => none }
def IntakeTakesWrongFalsely : Prop := intakeTakesRow.holds Try.pinned (OpenSpec.ofChange intakeTakesWrong)

/-- 'longwirelaw07.IntakeTold': WHATEVER THE INPUT: true; the input reads as it did. -/
def intakeToldSpec : ChangeSpec := { name := "intakeTold", fn := fun _ => fun
  | [d] => { results := [.lit (.bool true)], args := [d] }
  | _ => none }
def intakeToldRow : OpenClaim := { program := "ytbainekfbonbjaa", sum := "01aedb92068715934576cdaecd3f29014bde675f6a99236c2edbec89f1c24356", func := "longwire/longwirelaw07.IntakeTold", spec := "intakeTold", inPlace := ["internal/bytealg.MakeNoZero"], unfollowed := true, recurses := true, apart := false }
def IntakeToldSaid : Prop := intakeToldRow.holds Try.pinned (OpenSpec.ofChange intakeToldSpec)

/-- ITS FALSE NEIGHBOUR: 'it returns false'. Refute it at one input. -/
def intakeToldWrong : ChangeSpec := { name := "intakeTold", fn := fun _ => fun
  | [d] => { results := [.lit (.bool false)], args := [d] }
  | _ => none }
def IntakeToldWrongFalsely : Prop := intakeToldRow.holds Try.pinned (OpenSpec.ofChange intakeToldWrong)

/-- 'longwirelaw07.IntakeOrder': WHATEVER THE INPUT: true; the input reads as it did. -/
def intakeOrderSpec : ChangeSpec := { name := "intakeOrder", fn := fun _ => fun
  | [d] => { results := [.lit (.bool true)], args := [d] }
  | _ => none }
def intakeOrderRow : OpenClaim := { program := "ytbainekfbonbjaa", sum := "01aedb92068715934576cdaecd3f29014bde675f6a99236c2edbec89f1c24356", func := "longwire/longwirelaw07.IntakeOrder", spec := "intakeOrder", inPlace := ["internal/bytealg.MakeNoZero"], unfollowed := true, recurses := true, apart := false }
def IntakeOrderSaid : Prop := intakeOrderRow.holds Try.pinned (OpenSpec.ofChange intakeOrderSpec)

/-- ITS FALSE NEIGHBOUR: 'it returns false'. Refute it at one input. -/
def intakeOrderWrong : ChangeSpec := { name := "intakeOrder", fn := fun _ => fun
  | [d] => { results := [.lit (.bool false)], args := [d] }
  | _ => none }
def IntakeOrderWrongFalsely : Prop := intakeOrderRow.holds Try.pinned (OpenSpec.ofChange intakeOrderWrong)

/-- 'longwirelaw06.WindowWaits': WHATEVER THE INPUT: true; the input reads as it did. -/
def windowWaitsSpec : ChangeSpec := { name := "windowWaits", fn := fun _ => fun
  | [d1, d2, d3] => { results := [.lit (.bool true)], args := [d1, d2, d3] }
  | _ => none }
def windowWaitsRow : OpenClaim := { program := "ytbainekfbonbjaa", sum := "01aedb92068715934576cdaecd3f29014bde675f6a99236c2edbec89f1c24356", func := "longwire/longwirelaw06.WindowWaits", spec := "windowWaits", unfollowed := true, recurses := true, apart := false }
def WindowWaitsSaid : Prop := windowWaitsRow.holds Try.pinned (OpenSpec.ofChange windowWaitsSpec)

/-- ITS FALSE NEIGHBOUR: 'it returns false'. Refute it at one input. -/
def windowWaitsWrong : ChangeSpec := { name := "windowWaits", fn := fun _ => fun
  | [d1, d2, d3] => { results := [.lit (.bool false)], args := [d1, d2, d3] }
  | _ => none }
def WindowWaitsWrongFalsely : Prop := windowWaitsRow.holds Try.pinned (OpenSpec.ofChange windowWaitsWrong)

/-- 'longwirelaw06.WindowKeeps': WHATEVER THE INPUT: true; the input reads as it did. -/
def windowKeepsSpec : ChangeSpec := { name := "windowKeeps", fn := fun _ => fun
  | [d1, d2] => { results := [.lit (.bool true)], args := [d1, d2] }
  | _ => none }
def windowKeepsRow : OpenClaim := { program := "ytbainekfbonbjaa", sum := "01aedb92068715934576cdaecd3f29014bde675f6a99236c2edbec89f1c24356", func := "longwire/longwirelaw06.WindowKeeps", spec := "windowKeeps", unfollowed := true, recurses := true, apart := false }
def WindowKeepsSaid : Prop := windowKeepsRow.holds Try.pinned (OpenSpec.ofChange windowKeepsSpec)

/-- ITS FALSE NEIGHBOUR: 'it returns false'. Refute it at one input. -/
def windowKeepsWrong : ChangeSpec := { name := "windowKeeps", fn := fun _ => fun
  | [d1, d2] => { results := [.lit (.bool false)], args := [d1, d2] }
  | _ => none }
def WindowKeepsWrongFalsely : Prop := windowKeepsRow.holds Try.pinned (OpenSpec.ofChange windowKeepsWrong)

/- THE SECOND FORM. 'bulk': how many values and letters a reading holds, each counted each time it is reached (what is shared counts as often as it is met; a slice's spare places count too). A statement '..UptoSaid' is the law's where the arguments, and the package variables that the reading takes, are together of bulk at most 1048576: NARROWER than '..Said'. Prove '..Said' where nothing that the law and all that it calls make is longer than what came in: it says more and counts as full. Else prove '..UptoSaid'. A law counts once. -/
mutual
def uptoBulk {H : Type} : DataW H → Nat
  | .lit (.string bytes) => bytes.length + 1
  | .lit _ => 1
  | .nil => 1
  | .ptr d => uptoBulk d + 1
  | .slice elems spare => uptoBulkAll elems + uptoBulkAll spare + 1
  | .agg parts => uptoBulkAll parts + 1
  | .iface _ d => uptoBulk d + 1
  | .map entries => uptoBulkEntries entries + 1
  | .held _ => 1
def uptoBulkAll {H : Type} : List (DataW H) → Nat
  | [] => 0
  | d :: r => uptoBulk d + uptoBulkAll r
def uptoBulkEntries {H : Type} : List (Lit × DataW H) → Nat
  | [] => 0
  | x :: r => uptoBulkEntry x + uptoBulkEntries r
def uptoBulkEntry {H : Type} : Lit × DataW H → Nat
  | (.string bytes, d) => bytes.length + uptoBulk d + 1
  | (_, d) => uptoBulk d + 1
 end
def uptoSmall : (H : Type) → List (DataW H) → Bool := fun _ ds => decide (uptoBulkAll ds ≤ 1048576)
def OpenSpec.upto (s : _root_.Go.ChangeSpec) : _root_.Go.OpenSpec := { _root_.Go.OpenSpec.ofChange s with cond := some uptoSmall }

/-- 'longwirelaw05.SeqAsked', WHERE WHAT IT READS IS OF BULK AT MOST 1048576: true; the input reads as it did. -/
def seqAskedUptoRow : OpenClaim := { program := "ytbainekfbonbjaa", sum := "01aedb92068715934576cdaecd3f29014bde675f6a99236c2edbec89f1c24356", func := "longwire/longwirelaw05.SeqAsked", spec := "seqAsked", unfollowed := true, recurses := true, apart := false, narrowed := true }
def SeqAskedUptoSaid : Prop := seqAskedUptoRow.holds Try.pinned (OpenSpec.upto seqAskedSpec)

/-- 'longwirelaw05.SeqSpans', WHERE WHAT IT READS IS OF BULK AT MOST 1048576: true; the input reads as it did. -/
def seqSpansUptoRow : OpenClaim := { program := "ytbainekfbonbjaa", sum := "01aedb92068715934576cdaecd3f29014bde675f6a99236c2edbec89f1c24356", func := "longwire/longwirelaw05.SeqSpans", spec := "seqSpans", unfollowed := true, recurses := true, apart := false, narrowed := true }
def SeqSpansUptoSaid : Prop := seqSpansUptoRow.holds Try.pinned (OpenSpec.upto seqSpansSpec)

/-- 'longwirelaw05.SeqMasks', WHERE WHAT IT READS IS OF BULK AT MOST 1048576: true; the input reads as it did. -/
def seqMasksUptoRow : OpenClaim := { program := "ytbainekfbonbjaa", sum := "01aedb92068715934576cdaecd3f29014bde675f6a99236c2edbec89f1c24356", func := "longwire/longwirelaw05.SeqMasks", spec := "seqMasks", unfollowed := true, recurses := true, apart := false, narrowed := true }
def SeqMasksUptoSaid : Prop := seqMasksUptoRow.holds Try.pinned (OpenSpec.upto seqMasksSpec)

/-- 'longwirelaw05.SeqGives', WHERE WHAT IT READS IS OF BULK AT MOST 1048576: true; the input reads as it did. -/
def seqGivesUptoRow : OpenClaim := { program := "ytbainekfbonbjaa", sum := "01aedb92068715934576cdaecd3f29014bde675f6a99236c2edbec89f1c24356", func := "longwire/longwirelaw05.SeqGives", spec := "seqGives", unfollowed := true, recurses := true, apart := false, narrowed := true }
def SeqGivesUptoSaid : Prop := seqGivesUptoRow.holds Try.pinned (OpenSpec.upto seqGivesSpec)

/-- 'longwirelaw05.SeqOnce', WHERE WHAT IT READS IS OF BULK AT MOST 1048576: true; the input reads as it did. -/
def seqOnceUptoRow : OpenClaim := { program := "ytbainekfbonbjaa", sum := "01aedb92068715934576cdaecd3f29014bde675f6a99236c2edbec89f1c24356", func := "longwire/longwirelaw05.SeqOnce", spec := "seqOnce", unfollowed := true, recurses := true, apart := false, narrowed := true }
def SeqOnceUptoSaid : Prop := seqOnceUptoRow.holds Try.pinned (OpenSpec.upto seqOnceSpec)

/-- 'longwirelaw06.WindowPlays', WHERE WHAT IT READS IS OF BULK AT MOST 1048576: true; the input reads as it did. -/
def windowPlaysUptoRow : OpenClaim := { program := "ytbainekfbonbjaa", sum := "01aedb92068715934576cdaecd3f29014bde675f6a99236c2edbec89f1c24356", func := "longwire/longwirelaw06.WindowPlays", spec := "windowPlays", inPlace := ["maps.clone"], unfollowed := true, recurses := true, apart := false, narrowed := true }
def WindowPlaysUptoSaid : Prop := windowPlaysUptoRow.holds Try.pinned (OpenSpec.upto windowPlaysSpec)

/-- 'longwirelaw05.SeqKnown', WHERE WHAT IT READS IS OF BULK AT MOST 1048576: true; the input reads as it did. -/
def seqKnownUptoRow : OpenClaim := { program := "ytbainekfbonbjaa", sum := "01aedb92068715934576cdaecd3f29014bde675f6a99236c2edbec89f1c24356", func := "longwire/longwirelaw05.SeqKnown", spec := "seqKnown", unfollowed := true, recurses := true, apart := false, narrowed := true }
def SeqKnownUptoSaid : Prop := seqKnownUptoRow.holds Try.pinned (OpenSpec.upto seqKnownSpec)

/-- 'longwirelaw06.WindowKnown', WHERE WHAT IT READS IS OF BULK AT MOST 1048576: true; the input reads as it did. -/
def windowKnownUptoRow : OpenClaim := { program := "ytbainekfbonbjaa", sum := "01aedb92068715934576cdaecd3f29014bde675f6a99236c2edbec89f1c24356", func := "longwire/longwirelaw06.WindowKnown", spec := "windowKnown", inPlace := ["maps.clone"], unfollowed := true, recurses := true, apart := false, narrowed := true }
def WindowKnownUptoSaid : Prop := windowKnownUptoRow.holds Try.pinned (OpenSpec.upto windowKnownSpec)

/-- 'longwirelaw07.IntakeKnown', WHERE WHAT IT READS IS OF BULK AT MOST 1048576: true; the input reads as it did. -/
def intakeKnownUptoRow : OpenClaim := { program := "ytbainekfbonbjaa", sum := "01aedb92068715934576cdaecd3f29014bde675f6a99236c2edbec89f1c24356", func := "longwire/longwirelaw07.IntakeKnown", spec := "intakeKnown", inPlace := ["maps.clone"], unfollowed := true, recurses := true, apart := false, narrowed := true }
def IntakeKnownUptoSaid : Prop := intakeKnownUptoRow.holds Try.pinned (OpenSpec.upto intakeKnownSpec)

/-- 'longwirelaw07.IntakeTakes', WHERE WHAT IT READS IS OF BULK AT MOST 1048576: true; the input reads as it did. -/
def intakeTakesUptoRow : OpenClaim := { program := "ytbainekfbonbjaa", sum := "01aedb92068715934576cdaecd3f29014bde675f6a99236c2edbec89f1c24356", func := "longwire/longwirelaw07.IntakeTakes", spec := "intakeTakes", inPlace := ["maps.clone"], unfollowed := true, recurses := true, apart := false, narrowed := true }
def IntakeTakesUptoSaid : Prop := intakeTakesUptoRow.holds Try.pinned (OpenSpec.upto intakeTakesSpec)

/-- 'longwirelaw07.IntakeTold', WHERE WHAT IT READS IS OF BULK AT MOST 1048576: true; the input reads as it did. -/
def intakeToldUptoRow : OpenClaim := { program := "ytbainekfbonbjaa", sum := "01aedb92068715934576cdaecd3f29014bde675f6a99236c2edbec89f1c24356", func := "longwire/longwirelaw07.IntakeTold", spec := "intakeTold", inPlace := ["internal/bytealg.MakeNoZero"], unfollowed := true, recurses := true, apart := false, narrowed := true }
def IntakeToldUptoSaid : Prop := intakeToldUptoRow.holds Try.pinned (OpenSpec.upto intakeToldSpec)

/-- 'longwirelaw07.IntakeOrder', WHERE WHAT IT READS IS OF BULK AT MOST 1048576: true; the input reads as it did. -/
def intakeOrderUptoRow : OpenClaim := { program := "ytbainekfbonbjaa", sum := "01aedb92068715934576cdaecd3f29014bde675f6a99236c2edbec89f1c24356", func := "longwire/longwirelaw07.IntakeOrder", spec := "intakeOrder", inPlace := ["internal/bytealg.MakeNoZero"], unfollowed := true, recurses := true, apart := false, narrowed := true }
def IntakeOrderUptoSaid : Prop := intakeOrderUptoRow.holds Try.pinned (OpenSpec.upto intakeOrderSpec)

/-- 'longwirelaw06.WindowWaits', WHERE WHAT IT READS IS OF BULK AT MOST 1048576: true; the input reads as it did. -/
def windowWaitsUptoRow : OpenClaim := { program := "ytbainekfbonbjaa", sum := "01aedb92068715934576cdaecd3f29014bde675f6a99236c2edbec89f1c24356", func := "longwire/longwirelaw06.WindowWaits", spec := "windowWaits", unfollowed := true, recurses := true, apart := false, narrowed := true }
def WindowWaitsUptoSaid : Prop := windowWaitsUptoRow.holds Try.pinned (OpenSpec.upto windowWaitsSpec)

/-- 'longwirelaw06.WindowKeeps', WHERE WHAT IT READS IS OF BULK AT MOST 1048576: true; the input reads as it did. -/
def windowKeepsUptoRow : OpenClaim := { program := "ytbainekfbonbjaa", sum := "01aedb92068715934576cdaecd3f29014bde675f6a99236c2edbec89f1c24356", func := "longwire/longwirelaw06.WindowKeeps", spec := "windowKeeps", unfollowed := true, recurses := true, apart := false, narrowed := true }
def WindowKeepsUptoSaid : Prop := windowKeepsUptoRow.holds Try.pinned (OpenSpec.upto windowKeepsSpec)

end Rows
end Go.Proofs.Ytbainekfbonbjaa
