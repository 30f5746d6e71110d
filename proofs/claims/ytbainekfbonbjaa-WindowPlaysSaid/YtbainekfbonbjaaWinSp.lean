/- seq.Space and the document's: contracts (as SeqJ has them, for texts that import Own). No statement is proved here; nothing is assumed. -/
import Derived.Test.YtbainekfbonbjaaIntI
import Derived.Test.YtbainekfbonbjaaSeqI
import Derived.OwnWalkIn
import Derived.TacticsInMore
import Derived.LoopNIn
import Derived.LoopIn
import Derived.Deep.QuietTactic
import Derived.BigQuiet
import Derived.Maps.OwnIn
namespace Go.Proofs.Ytbainekfbonbjaa
open Go.RowKit Go.Shelf
set_option linter.unusedVariables false
attribute [local go_sem] Oper.semAt_some

def spaceObj (t : TypeId) (u l : Nat) : Obj := .cells #[.int .u32 (u : Int), .int .u32 (l : Int)] t
def SpaceAt (W : World) (b u l : Nat) : Prop := W.heap[b]? = some (spaceObj 92 u l)
def RefSpaceAt (W : World) (b u l : Nat) : Prop := W.heap[b]? = some (spaceObj 60 u l)

theorem space_cells {W : World} {t : TypeId} {b u l : Nat} (h : W.heap[b]? = some (spaceObj t u l)) : W.cell? ⟨b, 0, none⟩ = some (.int .u32 (u : Int)) ∧ W.cell? ⟨b, 1, none⟩ = some (.int .u32 (l : Int)) ∧ W.frozen? ⟨b, 0, none⟩ = false :=
  ⟨cells_cell h rfl, cells_cell h rfl, cells_frozen h⟩

theorem spaceNew_ok (l : Nat) (h1 : 1 ≤ l) (h2 : l ≤ 2147483648) (w : World) : Calls Try.prog 37 #[.int .u32 (l : Int)] w fun e w' => e = .returned (.tuple #[.pointer (some ⟨w.heap.size, 0, none⟩), .int .i64 0]) ∧ w.alloc (spaceObj 92 0 l) = w' := by
  have e1 : ((l : Int) < 1) = False := by simp; omega
  have e2 : (2147483648 < (l : Int)) = False := by simp; omega
  clear h1 h2
  unfold spaceObj
  go_enter Try.func37, Try.ntmps37
  go_wp2
  go_ret2
  exact ⟨rfl, rfl⟩
theorem spaceNew_bad (l : Nat) (h : l < 1 ∨ 2147483648 < l) (w : World) : Calls Try.prog 37 #[.int .u32 (l : Int)] w fun e w' => e = .returned (.tuple #[.pointer none, .int .i64 1]) ∧ w = w' := by
  by_cases h1 : l < 1
  · have e1 : ((l : Int) < 1) = True := by simp; omega
    clear h h1
    go_enter Try.func37, Try.ntmps37
    go_wp2
    go_ret2
    exact ⟨rfl, rfl⟩
  · have e1 : ((l : Int) < 1) = False := by simp; omega
    have e2 : (2147483648 < (l : Int)) = True := by simp; omega
    clear h h1
    go_enter Try.func37, Try.ntmps37
    go_wp2
    go_ret2
    exact ⟨rfl, rfl⟩
theorem refNew_ok (l : Nat) (h1 : 1 ≤ l) (h2 : l ≤ 2147483648) (w : World) : Calls Try.prog 38 #[.int .u32 (l : Int)] w fun e w' => e = .returned (.tuple #[.pointer (some ⟨w.heap.size, 0, none⟩), .int .i64 0]) ∧ w.alloc (spaceObj 60 0 l) = w' := by
  have e1 : ((l : Int) == 0) = false := by simp; omega
  have e2 : (2147483648 < (l : Int)) = False := by simp; omega
  clear h1 h2
  unfold spaceObj
  go_enter Try.func38, Try.ntmps38
  go_wp2
  go_ret2
  exact ⟨rfl, rfl⟩
theorem refNew_bad (l : Nat) (h : l < 1 ∨ 2147483648 < l) (w : World) : Calls Try.prog 38 #[.int .u32 (l : Int)] w fun e w' => e = .returned (.tuple #[.pointer none, .int .i64 1]) ∧ w = w' := by
  by_cases h1 : l < 1
  · obtain rfl : l = 0 := by omega
    clear h h1
    go_enter Try.func38, Try.ntmps38
    go_wp2
    go_ret2
    exact ⟨rfl, rfl⟩
  · have e1 : ((l : Int) == 0) = false := by simp; omega
    have e2 : (2147483648 < (l : Int)) = True := by simp; omega
    clear h h1
    go_enter Try.func38, Try.ntmps38
    go_wp2
    go_ret2
    exact ⟨rfl, rfl⟩

theorem spaceNone_any (b u l : Nat) (hl : 1 ≤ l) (w : World) (h : SpaceAt w b u l) : Calls Try.prog 91 #[.pointer (some ⟨b, 0, none⟩)] w fun e w' => e = .returned (.bool false) ∧ w = w' := by
  obtain ⟨c0, c1, _⟩ := space_cells h
  have e1 : ((l : Int) == 0) = false := by simp; omega
  clear h
  go_enter Try.func91, Try.ntmps91
  go_wp2
  go_ret
  exact ⟨rfl, rfl⟩
theorem spaceNone_zero (b u : Nat) (w : World) (h : SpaceAt w b u 0) : Calls Try.prog 91 #[.pointer (some ⟨b, 0, none⟩)] w fun e w' => e = .returned (.bool true) ∧ w = w' := by
  obtain ⟨c0, c1, _⟩ := space_cells h
  clear h
  go_enter Try.func91, Try.ntmps91
  go_wp2
  go_ret
  exact ⟨rfl, rfl⟩
theorem spaceNone_nil (w : World) : Calls Try.prog 91 #[.pointer none] w fun e w' => e = .returned (.bool true) ∧ w = w' := by
  go_enter Try.func91, Try.ntmps91
  go_wp2
  go_ret
  exact ⟨rfl, rfl⟩

theorem used_any (b u l : Nat) (hl : 1 ≤ l) (w : World) (h : SpaceAt w b u l) : Calls Try.prog 41 #[.pointer (some ⟨b, 0, none⟩)] w fun e w' => e = .returned (.int .u32 (u : Int)) ∧ w = w' := by
  obtain ⟨c0, c1, _⟩ := space_cells h
  have H := Lib.hid h
  clear h
  go_enter Try.func41, Try.ntmps41
  go_wp2_with (go_at_call 91; refine (spaceNone_any b u l hl _ H.out).mono ?_; rintro e w' ⟨rfl, rfl⟩)
  go_ret
  exact ⟨rfl, rfl⟩
theorem left_any (b u l : Nat) (hl : 1 ≤ l) (hu : u ≤ l) (hm : l < 4294967296) (w : World) (h : SpaceAt w b u l) : Calls Try.prog 42 #[.pointer (some ⟨b, 0, none⟩)] w fun e w' => e = .returned (.int .u32 ((l : Int) - (u : Int))) ∧ ∃ n, w' = w.drewN n := by
  obtain ⟨c0, c1, _⟩ := space_cells h
  have H := Lib.hid h
  have hs : IntKind.u32.wrap ((l : Int) - (u : Int)) = (l : Int) - (u : Int) := by rw [IntKind.wrap_u32']; omega
  clear h
  go_enter Try.func42, Try.ntmps42
  go_wp2_with (go_at_call 91; refine (spaceNone_any b u l hl _ H.out).mono ?_; rintro e w' ⟨rfl, rfl⟩)
  go_quiet (fail)
  go_wp2
  go_ret
  exact ⟨rfl, _, rfl⟩

theorem next_ok (b u l : Nat) (hl : 1 ≤ l) (hu : u < l) (hm : l < 4294967296) (w : World) (h : SpaceAt w b u l) : Calls Try.prog 39 #[.pointer (some ⟨b, 0, none⟩)] w fun e w' => e = .returned (.tuple #[.int .u32 (u : Int), .int .i64 0]) ∧ SpaceAt w' b (u + 1) l ∧ Step [b] w w' := by
  obtain ⟨c0, c1, f0⟩ := space_cells h
  have H := Lib.hid h
  have e1 : ((u : Int) == (l : Int)) = false := by simp; omega
  clear h
  go_enter Try.func39, Try.ntmps39
  go_wp2_with (go_at_call 91; refine (spaceNone_any b u l hl _ H.out).mono ?_; rintro e w' ⟨rfl, rfl⟩)
  go_quiet (fail)
  go_wp2
  go_ret2
  have h' : (w.drewN nq).heap[b]? = some (spaceObj 92 u l) := H.out
  exact ⟨rfl, setCell_obj h' 0 _, (Step.drewN w nq).trans (Step.setObj h' rfl (by simp) 0 _)⟩
theorem next_full (b l : Nat) (hl : 1 ≤ l) (hm : l < 4294967296) (w : World) (h : SpaceAt w b l l) : Calls Try.prog 39 #[.pointer (some ⟨b, 0, none⟩)] w fun e w' => e = .returned (.tuple #[.int .u32 0, .int .i64 7]) ∧ SpaceAt w' b l l ∧ Step [] w w' := by
  obtain ⟨c0, c1, f0⟩ := space_cells h
  have H := Lib.hid h
  have e1 : ((l : Int) == (l : Int)) = true := by simp
  clear h
  go_enter Try.func39, Try.ntmps39
  go_wp2_with (go_at_call 91; refine (spaceNone_any b l l hl _ H.out).mono ?_; rintro e w' ⟨rfl, rfl⟩)
  go_quiet (fail)
  go_wp2
  go_ret2
  exact ⟨rfl, H.out, Step.drewN _ _⟩
theorem refNext_ok (b u l : Nat) (hu : u < l) (hm : l < 4294967296) (w : World) (h : RefSpaceAt w b u l) : Calls Try.prog 40 #[.pointer (some ⟨b, 0, none⟩)] w fun e w' => e = .returned (.tuple #[.int .u32 (u : Int), .int .i64 0]) ∧ RefSpaceAt w' b (u + 1) l ∧ Step [b] w w' := by
  obtain ⟨c0, c1, f0⟩ := space_cells h
  have H := Lib.hid h
  have e1 : ((l : Int) ≤ (u : Int)) = False := by simp; omega
  clear h
  go_enter Try.func40, Try.ntmps40
  go_wp2
  go_quiet (fail)
  go_wp2
  go_ret2
  have h' : (w.drewN nq).heap[b]? = some (spaceObj 60 u l) := H.out
  exact ⟨rfl, setCell_obj h' 0 _, (Step.drewN w nq).trans (Step.setObj h' rfl (by simp) 0 _)⟩
theorem refNext_full (b l : Nat) (hm : l < 4294967296) (w : World) (h : RefSpaceAt w b l l) : Calls Try.prog 40 #[.pointer (some ⟨b, 0, none⟩)] w fun e w' => e = .returned (.tuple #[.int .u32 0, .int .i64 7]) ∧ RefSpaceAt w' b l l ∧ Step [] w w' := by
  obtain ⟨c0, c1, f0⟩ := space_cells h
  have H := Lib.hid h
  clear h
  go_enter Try.func40, Try.ntmps40
  go_wp2
  go_quiet (fail)
  go_wp2
  go_ret2
  exact ⟨rfl, H.out, Step.drewN _ _⟩

/-- What Next tells: a number, an error. -/
def nextN (u l : Nat) : Nat := if u < l then u else 0
def nextE (u l : Nat) : Nat := if u < l then 0 else 7

/-- Next, whether there is one or none. -/
theorem next_any (b u l : Nat) (hl : 1 ≤ l) (hu : u ≤ l) (hm : l < 4294967296) (w : World) (h : SpaceAt w b u l) :
    Calls Try.prog 39 #[.pointer (some ⟨b, 0, none⟩)] w fun e w' => e = .returned (.tuple #[.int .u32 (nextN u l : Int), .int .i64 (nextE u l : Int)]) ∧ SpaceAt w' b (min (u + 1) l) l ∧ Step [b] w w' := by
  unfold nextN nextE
  by_cases h1 : u < l
  · rw [if_pos h1, if_pos h1, show min (u + 1) l = u + 1 from by omega]
    exact next_ok b u l hl h1 hm w h
  · obtain rfl : u = l := by omega
    rw [if_neg h1, if_neg h1, show min (u + 1) u = u from by omega]
    exact (next_full b u hl hm w h).mono fun e w' h => ⟨h.1, h.2.1, h.2.2.nil_mono⟩
theorem refNext_any (b u l : Nat) (hu : u ≤ l) (hm : l < 4294967296) (w : World) (h : RefSpaceAt w b u l) :
    Calls Try.prog 40 #[.pointer (some ⟨b, 0, none⟩)] w fun e w' => e = .returned (.tuple #[.int .u32 (nextN u l : Int), .int .i64 (nextE u l : Int)]) ∧ RefSpaceAt w' b (min (u + 1) l) l ∧ Step [b] w w' := by
  unfold nextN nextE
  by_cases h1 : u < l
  · rw [if_pos h1, if_pos h1, show min (u + 1) l = u + 1 from by omega]
    exact refNext_ok b u l h1 hm w h
  · obtain rfl : u = l := by omega
    rw [if_neg h1, if_neg h1, show min (u + 1) u = u from by omega]
    exact (refNext_full b u hm w h).mono fun e w' h => ⟨h.1, h.2.1, h.2.2.nil_mono⟩

end Go.Proofs.Ytbainekfbonbjaa
