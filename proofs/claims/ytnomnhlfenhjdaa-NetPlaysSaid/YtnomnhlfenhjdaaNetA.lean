/- net: what a net holds; contracts of way, at, Clone, Waits. No statement is proved here; nothing is assumed. -/
import Derived.Test.YtnomnhlfenhjdaaOwn
import Derived.OwnWalkIn
import Derived.TacticsInMore
import Derived.LoopNIn
import Derived.LoopIn
import Derived.Deep.QuietTactic
import Derived.BigQuiet
import Derived.Maps.OwnIn
import Derived.Deep.RegionHeld3
import Derived.Laws.Bits64
namespace Go.Proofs.Ytnomnhlfenhjdaa
open Go.RowKit Go.Shelf
set_option linter.unusedVariables false
attribute [local go_sem] Oper.semAt_some

/-- A slice of bytes as it can be read, wherever it lies. -/
def Reads (W : World) (v : Value) (vals : List Value) : Prop :=
  (∃ q cap, v = .slice q 0 cap ∧ vals = [] ∧ (q = none → cap = 0) ∧ cap ≤ maxLen) ∨ ∃ b off cap, v = .slice (some ⟨b, off, none⟩) vals.length cap ∧ vals.length ≤ cap ∧ cap ≤ maxLen ∧ ∀ j, j < vals.length → W.cell? ⟨b, off + j, none⟩ = vals[j]?
theorem OwnAt.reads {B : Nat} {W : World} {e : TypeId} {v : Value} {vals : List Value} (h : OwnAt B W e v vals) : Reads W v vals := by
  rcases h with ⟨rfl, rfl⟩ | ⟨g, off, cap, cur, rfl, hb, hg, h1, h2, h3, h4⟩
  · exact .inl ⟨none, 0, rfl, rfl, fun _ => rfl, by simp [maxLen]⟩
  · exact .inr ⟨g, off, cap, rfl, h1, h2, fun j hj => by rw [← h4 j hj]; simp [World.cell?, hg]⟩

def netObj (r0 r1 : Value) : Obj := .cells #[.bool true, r0, r1] 93
def NetObj (W : World) (b : Nat) (r0 r1 : Value) : Prop := W.heap[b]? = some (netObj r0 r1)
/-- The row of a way. -/
def rowOf (way : Nat) (r0 r1 : Value) : Value := if way = 0 then r0 else r1

theorem net_cells {W : World} {b : Nat} {r0 r1 : Value} (h : NetObj W b r0 r1) : W.cell? ⟨b, 0, none⟩ = some (.bool true) ∧ W.cell? ⟨b, 1, none⟩ = some r0 ∧ W.cell? ⟨b, 2, none⟩ = some r1 ∧ W.frozen? ⟨b, 1, none⟩ = false ∧ W.frozen? ⟨b, 2, none⟩ = false :=
  ⟨cells_cell h rfl, cells_cell h rfl, cells_cell h rfl, cells_frozen h, cells_frozen h⟩

theorem netNew_any (w : World) : Calls Try.prog 28 #[] w fun e w' => e = .returned (.pointer (some ⟨w.heap.size, 0, none⟩)) ∧ NetObj w' w.heap.size (.slice none 0 0) (.slice none 0 0) ∧ Step [] w w' := by
  go_enter Try.func28, Try.ntmps28
  go_wp2
  go_ret
  exact ⟨rfl, by unfold NetObj netObj; rw [heap_alloc_get, if_pos rfl], Step.alloc _ _⟩

theorem way_nil (way : Int) (w : World) : Calls Try.prog 45 #[.pointer none, .int .i64 way] w fun e w' => e = .returned (.tuple #[.pointer none, .int .i64 2]) ∧ w = w' := by
  go_enter Try.func45, Try.ntmps45
  go_wp2
  go_ret2
  exact ⟨rfl, rfl⟩
theorem way_zero (b : Nat) (way : Int) (w : World) (h : w.cell? ⟨b, 0, none⟩ = some (.bool false)) : Calls Try.prog 45 #[.pointer (some ⟨b, 0, none⟩), .int .i64 way] w fun e w' => e = .returned (.tuple #[.pointer none, .int .i64 2]) ∧ w = w' := by
  go_enter Try.func45, Try.ntmps45
  go_wp2
  go_ret2
  exact ⟨rfl, rfl⟩
theorem way_bad (b : Nat) (way : Int) (r0 r1 : Value) (hw : way < 0 ∨ 2 ≤ way) (w : World) (h : NetObj w b r0 r1) : Calls Try.prog 45 #[.pointer (some ⟨b, 0, none⟩), .int .i64 way] w fun e w' => e = .returned (.tuple #[.pointer none, .int .i64 1]) ∧ w = w' := by
  obtain ⟨c0, c1, c2, _, _⟩ := net_cells h
  clear h
  by_cases h1 : way < 0
  · have e1 : (way < 0) = True := by simp; omega
    clear hw h1
    go_enter Try.func45, Try.ntmps45
    go_wp2
    go_ret2
    exact ⟨rfl, rfl⟩
  · have e1 : (way < 0) = False := by simp; omega
    have e2 : ((2 : Int) ≤ way) = True := by simp; omega
    clear hw h1
    go_enter Try.func45, Try.ntmps45
    go_wp2
    go_ret2
    exact ⟨rfl, rfl⟩
theorem way_ok (b way : Nat) (r0 r1 : Value) (hw : way < 2) (w : World) (h : NetObj w b r0 r1) : Calls Try.prog 45 #[.pointer (some ⟨b, 0, none⟩), .int .i64 (way : Int)] w fun e w' => e = .returned (.tuple #[.pointer (some ⟨b, 1 + way, none⟩), .int .i64 0]) ∧ w = w' := by
  obtain ⟨c0, c1, c2, _, _⟩ := net_cells h
  clear h
  have hcase : way = 0 ∨ way = 1 := by omega
  rcases hcase with rfl | rfl
  · show Calls Try.prog 45 #[.pointer (some ⟨b, 0, none⟩), .int .i64 0] w _
    go_enter Try.func45, Try.ntmps45
    go_wp2
    go_ret2
    exact ⟨rfl, rfl⟩
  · show Calls Try.prog 45 #[.pointer (some ⟨b, 0, none⟩), .int .i64 1] w _
    go_enter Try.func45, Try.ntmps45
    go_wp2
    go_ret2
    exact ⟨rfl, rfl⟩

theorem net_way {W : World} {b way : Nat} {r0 r1 : Value} (h : NetObj W b r0 r1) (hw : way < 2) : W.cell? ⟨b, 1 + way, none⟩ = some (rowOf way r0 r1) ∧ W.frozen? ⟨b, 1 + way, none⟩ = false := by
  have hcase : way = 0 ∨ way = 1 := by omega
  rcases hcase with rfl | rfl
  · exact ⟨(net_cells h).2.1, (net_cells h).2.2.2.1⟩
  · exact ⟨(net_cells h).2.2.1, (net_cells h).2.2.2.2⟩

/-- A way that is none. -/
theorem at_none (p : Value) (way at_ : Int) (E : Int) (hE : E = 1 ∨ E = 2) (w : World) (h : Calls Try.prog 45 #[p, .int .i64 way] w fun e w' => e = .returned (.tuple #[.pointer none, .int .i64 E]) ∧ w = w') :
    Calls Try.prog 48 #[p, .int .i64 way, .int .i64 at_] w fun e w' => e = .returned (.tuple #[.pointer none, .int .i64 E]) ∧ w = w' := by
  have H := Lib.hid h
  clear h
  rcases hE with rfl | rfl
  all_goals
    go_enter Try.func48, Try.ntmps48
    go_wp2_with (go_at_call 45; refine (H.out).mono ?_; rintro e w' ⟨rfl, rfl⟩)
    go_ret2
    exact ⟨rfl, rfl⟩
theorem at_out (b way : Nat) (at_ : Int) (r0 r1 : Value) (q : Option Addr) (n cap : Nat) (hw : way < 2) (hr : rowOf way r0 r1 = .slice q n cap) (ha : at_ < 0 ∨ (n : Int) ≤ at_) (w : World) (h : NetObj w b r0 r1) :
    Calls Try.prog 48 #[.pointer (some ⟨b, 0, none⟩), .int .i64 (way : Int), .int .i64 at_] w fun e w' => e = .returned (.tuple #[.pointer (some ⟨b, 1 + way, none⟩), .int .i64 6]) ∧ w = w' := by
  have hc := (net_way h hw).1
  rw [hr] at hc
  have H := Lib.hid h
  have HW := Lib.hid hw
  clear h hr hw
  by_cases h1 : at_ < 0
  · have e1 : (at_ < 0) = True := by simp; omega
    clear ha h1
    go_enter Try.func48, Try.ntmps48
    go_wp2_with (go_at_call 45; refine (way_ok b way r0 r1 HW.out _ H.out).mono ?_; rintro e w' ⟨rfl, rfl⟩)
    go_ret2
    exact ⟨rfl, rfl⟩
  · have e1 : (at_ < 0) = False := by simp; omega
    have e2 : ((n : Int) ≤ at_) = True := by simp; omega
    clear ha h1
    go_enter Try.func48, Try.ntmps48
    go_wp2_with (go_at_call 45; refine (way_ok b way r0 r1 HW.out _ H.out).mono ?_; rintro e w' ⟨rfl, rfl⟩)
    go_ret2
    exact ⟨rfl, rfl⟩
theorem at_ok (b way at_ : Nat) (r0 r1 : Value) (q : Option Addr) (n cap : Nat) (hw : way < 2) (hr : rowOf way r0 r1 = .slice q n cap) (ha : at_ < n) (w : World) (h : NetObj w b r0 r1) :
    Calls Try.prog 48 #[.pointer (some ⟨b, 0, none⟩), .int .i64 (way : Int), .int .i64 (at_ : Int)] w fun e w' => e = .returned (.tuple #[.pointer (some ⟨b, 1 + way, none⟩), .int .i64 0]) ∧ w = w' := by
  have hc := (net_way h hw).1
  rw [hr] at hc
  have H := Lib.hid h
  have HW := Lib.hid hw
  have e1 : ((at_ : Int) < 0) = False := by simp
  have e2 : ((n : Int) ≤ (at_ : Int)) = False := by simp; omega
  clear h hr hw ha
  go_enter Try.func48, Try.ntmps48
  go_wp2_with (go_at_call 45; refine (way_ok b way r0 r1 HW.out _ H.out).mono ?_; rintro e w' ⟨rfl, rfl⟩)
  go_ret2
  exact ⟨rfl, rfl⟩

theorem waits_none (p : Value) (way E : Int) (hE : E = 1 ∨ E = 2) (w : World) (h : Calls Try.prog 45 #[p, .int .i64 way] w fun e w' => e = .returned (.tuple #[.pointer none, .int .i64 E]) ∧ w = w') :
    Calls Try.prog 34 #[p, .int .i64 way] w fun e w' => e = .returned (.int .i64 0) ∧ w = w' := by
  have H := Lib.hid h
  clear h
  rcases hE with rfl | rfl
  all_goals
    go_enter Try.func34, Try.ntmps34
    go_wp2_with (go_at_call 45; refine (H.out).mono ?_; rintro e w' ⟨rfl, rfl⟩)
    go_ret
    exact ⟨rfl, rfl⟩
theorem waits_ok (b way : Nat) (r0 r1 : Value) (q : Option Addr) (n cap : Nat) (hw : way < 2) (hr : rowOf way r0 r1 = .slice q n cap) (w : World) (h : NetObj w b r0 r1) :
    Calls Try.prog 34 #[.pointer (some ⟨b, 0, none⟩), .int .i64 (way : Int)] w fun e w' => e = .returned (.int .i64 (n : Int)) ∧ w = w' := by
  have hc := (net_way h hw).1
  rw [hr] at hc
  have H := Lib.hid h
  have HW := Lib.hid hw
  clear h hr hw
  go_enter Try.func34, Try.ntmps34
  go_wp2_with (go_at_call 45; refine (way_ok b way r0 r1 HW.out _ H.out).mono ?_; rintro e w' ⟨rfl, rfl⟩)
  go_ret
  exact ⟨rfl, rfl⟩

end Go.Proofs.Ytnomnhlfenhjdaa
