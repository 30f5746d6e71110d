/- intake: what an intake is; none, has. No statement is proved here; nothing is assumed. -/
import Derived.Test.YtbainekfbonbjaaIntP
import Derived.Test.YtbainekfbonbjaaRows
import Derived.OwnWalkIn
import Derived.TacticsInMore
import Derived.LoopNIn
import Derived.LoopIn
import Derived.Deep.QuietTactic
import Derived.BigQuiet
import Derived.Maps.OwnIn
import Derived.Shelf.SlMaps.Clone
namespace Go.Proofs.Ytbainekfbonbjaa
open Go.RowKit Go.Shelf
set_option linter.unusedVariables false
attribute [local go_sem] Oper.semAt_some

def intObj (F : Nat) (m : Option Nat) : Obj := .cells #[.int .u32 (F : Int), .map m] 101
def IntObj (W : World) (b F : Nat) (m : Option Nat) : Prop := W.heap[b]? = some (intObj F m)
theorem int_cells {W : World} {b F : Nat} {m : Option Nat} (h : IntObj W b F m) : W.cell? ⟨b, 0, none⟩ = some (.int .u32 (F : Int)) ∧ W.cell? ⟨b, 1, none⟩ = some (.map m) ∧ W.frozen? ⟨b, 0, none⟩ = false := by
  refine ⟨?_, ?_, ?_⟩
  · simp [World.cell?, show W.heap[b]? = _ from h, intObj]
  · simp [World.cell?, show W.heap[b]? = _ from h, intObj]
  · simp [World.frozen?, show W.heap[b]? = _ from h, intObj]
theorem eqnil99 (w : World) (p : Option Nat) : (binOp .eql 99 (.map p) (.map none)).run Try.prog w = .ok (.bool p.isNone) w := run_eql_map_nil_sl w 99 _ _ p Try.underlying99
theorem zero71 (w : World) : (zeroValue 71).run Try.prog w = .ok (.slice none 0 0) w := by kernel_rfl
theorem none_nil (w : World) : Calls Try.prog 98 #[.pointer none] w fun e w' => e = .returned (.bool true) ∧ w' = w := by
  go_enter Try.func98, Try.ntmps98
  go_wp2
  go_ret
  exact ⟨rfl, rfl⟩
theorem none_any (b F : Nat) (m : Option Nat) (w : World) (h : IntObj w b F m) : Calls Try.prog 98 #[.pointer (some ⟨b, 0, none⟩)] w fun e w' => e = .returned (.bool m.isNone) ∧ w' = w := by
  obtain ⟨c0, c1, _⟩ := int_cells h
  have hq := eqnil99 w m
  clear h
  go_enter Try.func98, Try.ntmps98
  go_wp2
  go_ret
  exact ⟨rfl, rfl⟩
theorem has7_any (b F bm n : Nat) (hn : n < 4294967296) (M : Ents) (w : World) (h : IntObj w b F (some bm)) (hm : MapV w bm M) : Calls Try.prog 99 #[.pointer (some ⟨b, 0, none⟩), .int .u32 (n : Int)] w fun e w' => e = .returned (.bool (hasE M n)) ∧ w' = w := by
  obtain ⟨c0, c1, _⟩ := int_cells h
  have hl := hm.look_ok Try.underlying99 (zero71 w) hn
  clear h hm
  generalize getE M n (.slice none 0 0) = g at hl
  generalize hasE M n = hh at hl ⊢
  go_enter Try.func99, Try.ntmps99
  go_wp2
  go_ret
  exact ⟨rfl, rfl⟩
end Go.Proofs.Ytbainekfbonbjaa
