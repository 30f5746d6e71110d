/- credit: what the two ends and the document's two ends hold, and contracts of the small functions. No statement is proved here; nothing is assumed. -/
import Derived.Test.YtnomnhlfenhjdaaBase
import Derived.Test.YtnomnhlfenhjdaaProg
import Derived.OwnWalkIn
import Derived.TacticsInMore
import Derived.LoopNIn
import Derived.LoopIn
import Derived.Deep.QuietTactic
import Derived.BigQuiet
import Derived.Maps.OwnIn
import Derived.Laws.Bits64
import Derived.Laws.ResultCell
namespace Go.Proofs.Ytnomnhlfenhjdaa
open Go.RowKit Go.Shelf
set_option linter.unusedVariables false
attribute [local go_sem] Oper.semAt_some

theorem heap_alloc_get (w : World) (o : Obj) (k : Nat) : (w.alloc o).heap[k]? = if k = w.heap.size then some o else w.heap[k]? := by
  show (w.heap.push o)[k]? = _
  rw [Array.getElem?_push]
theorem Step.drewN {S : List Nat} (W : World) (n : Nat) : Step S W (W.drewN n) := ⟨rfl, rfl, rfl, Nat.le_refl _, fun _ _ _ => rfl, fun _ _ h _ _ => h⟩
theorem step_cell {W W' : World} {a : Addr} {v : Value} (hs : Step [] W W') (h : W.cell? a = some v) : W'.cell? a = some v := (hs.below.cell (p := a) (World.block_lt_of_cell? _ _ h)).trans h

def spObj (m g p : Nat) : Obj := .cells #[.int .u64 (m : Int), .int .u64 (g : Int), .int .u64 (p : Int)] 64
def gvObj (m g t u : Nat) : Obj := .cells #[.int .u64 (m : Int), .int .u64 (g : Int), .int .u64 (t : Int), .int .u64 (u : Int)] 66
def rsObj (m g p : Nat) : Obj := .cells #[.int .i64 (m : Int), .int .i64 (g : Int), .int .i64 (p : Int)] 34
def rgObj (m g t u : Nat) : Obj := .cells #[.int .i64 (m : Int), .int .i64 (g : Int), .int .i64 (t : Int), .int .i64 (u : Int)] 37
def SpAt (W : World) (b m g p : Nat) : Prop := W.heap[b]? = some (spObj m g p)
def GvAt (W : World) (b m g t u : Nat) : Prop := W.heap[b]? = some (gvObj m g t u)
def RsAt (W : World) (b m g p : Nat) : Prop := W.heap[b]? = some (rsObj m g p)
def RgAt (W : World) (b m g t u : Nat) : Prop := W.heap[b]? = some (rgObj m g t u)

theorem cells_cell {W : World} {b i : Nat} {c : Array Value} {t : TypeId} {f : Nat × Nat} {v : Value} (h : W.heap[b]? = some (.cells c t f)) (hv : c[i]? = some v) : W.cell? ⟨b, i, none⟩ = some v := by simp [World.cell?, h, hv]
theorem cells_frozen {W : World} {b i : Nat} {c : Array Value} {t : TypeId} (h : W.heap[b]? = some (.cells c t (0, 0))) : W.frozen? ⟨b, i, none⟩ = false := by simp [World.frozen?, h]
theorem setCell_obj {W : World} {b : Nat} {c : Array Value} {t : TypeId} {f : Nat × Nat} (h : W.heap[b]? = some (.cells c t f)) (i : Nat) (v : Value) : (W.setCell ⟨b, i, none⟩ v).heap[b]? = some (.cells (c.setIfInBounds i v) t f) := by
  obtain ⟨hlt, hk⟩ := Array.getElem?_eq_some_iff.1 h
  show (W.heap.modify b _)[b]? = _
  rw [Array.getElem?_eq_getElem (by rw [Array.size_modify]; exact hlt), Array.getElem_modify_self, hk]
  rfl
theorem Step.setObj {S : List Nat} {W : World} {b : Nat} {c : Array Value} {t : TypeId} {f : Nat × Nat} (h : W.heap[b]? = some (.cells c t f)) (ht : heldType t = false) (hS : b ∈ S) (i : Nat) (v : Value) : Step S W (W.setCell ⟨b, i, none⟩ v) :=
  Step.setCell W _ v (.inl hS) (fun o ho => by rw [h] at ho; cases ho; exact ht)

theorem sp_cells {W : World} {b m g p : Nat} (h : SpAt W b m g p) : W.cell? ⟨b, 0, none⟩ = some (.int .u64 (m : Int)) ∧ W.cell? ⟨b, 1, none⟩ = some (.int .u64 (g : Int)) ∧ W.cell? ⟨b, 2, none⟩ = some (.int .u64 (p : Int)) ∧ W.frozen? ⟨b, 1, none⟩ = false ∧ W.frozen? ⟨b, 2, none⟩ = false :=
  ⟨cells_cell h rfl, cells_cell h rfl, cells_cell h rfl, cells_frozen h, cells_frozen h⟩
theorem gv_cells {W : World} {b m g t u : Nat} (h : GvAt W b m g t u) : W.cell? ⟨b, 0, none⟩ = some (.int .u64 (m : Int)) ∧ W.cell? ⟨b, 1, none⟩ = some (.int .u64 (g : Int)) ∧ W.cell? ⟨b, 2, none⟩ = some (.int .u64 (t : Int)) ∧ W.cell? ⟨b, 3, none⟩ = some (.int .u64 (u : Int)) ∧ W.frozen? ⟨b, 1, none⟩ = false ∧ W.frozen? ⟨b, 2, none⟩ = false ∧ W.frozen? ⟨b, 3, none⟩ = false :=
  ⟨cells_cell h rfl, cells_cell h rfl, cells_cell h rfl, cells_cell h rfl, cells_frozen h, cells_frozen h, cells_frozen h⟩
theorem rs_cells {W : World} {b m g p : Nat} (h : RsAt W b m g p) : W.cell? ⟨b, 0, none⟩ = some (.int .i64 (m : Int)) ∧ W.cell? ⟨b, 1, none⟩ = some (.int .i64 (g : Int)) ∧ W.cell? ⟨b, 2, none⟩ = some (.int .i64 (p : Int)) ∧ W.frozen? ⟨b, 1, none⟩ = false ∧ W.frozen? ⟨b, 2, none⟩ = false :=
  ⟨cells_cell h rfl, cells_cell h rfl, cells_cell h rfl, cells_frozen h, cells_frozen h⟩
theorem rg_cells {W : World} {b m g t u : Nat} (h : RgAt W b m g t u) : W.cell? ⟨b, 0, none⟩ = some (.int .i64 (m : Int)) ∧ W.cell? ⟨b, 1, none⟩ = some (.int .i64 (g : Int)) ∧ W.cell? ⟨b, 2, none⟩ = some (.int .i64 (t : Int)) ∧ W.cell? ⟨b, 3, none⟩ = some (.int .i64 (u : Int)) ∧ W.frozen? ⟨b, 1, none⟩ = false ∧ W.frozen? ⟨b, 2, none⟩ = false ∧ W.frozen? ⟨b, 3, none⟩ = false :=
  ⟨cells_cell h rfl, cells_cell h rfl, cells_cell h rfl, cells_cell h rfl, cells_frozen h, cells_frozen h, cells_frozen h⟩

/-! ### the small ones -/
theorem spNone_any (b m g p : Nat) (hm : 1 ≤ m) (w : World) (h : SpAt w b m g p) : Calls Try.prog 42 #[.pointer (some ⟨b, 0, none⟩)] w fun e w' => e = .returned (.bool false) ∧ w = w' := by
  obtain ⟨c0, c1, c2, _, _⟩ := sp_cells h
  have e1 : ((m : Int) == 0) = false := by simp; omega
  clear h
  go_enter Try.func42, Try.ntmps42
  go_wp2
  go_ret
  exact ⟨rfl, rfl⟩
theorem spNone_zero (b : Nat) (w : World) (h : SpAt w b 0 0 0) : Calls Try.prog 42 #[.pointer (some ⟨b, 0, none⟩)] w fun e w' => e = .returned (.bool true) ∧ w = w' := by
  obtain ⟨c0, c1, c2, _, _⟩ := sp_cells h
  clear h
  go_enter Try.func42, Try.ntmps42
  go_wp2
  go_ret
  exact ⟨rfl, rfl⟩
theorem spNone_nil (w : World) : Calls Try.prog 42 #[.pointer none] w fun e w' => e = .returned (.bool true) ∧ w = w' := by
  go_enter Try.func42, Try.ntmps42
  go_wp2
  go_ret
  exact ⟨rfl, rfl⟩
theorem gvNone_any (b m g t u : Nat) (hm : 1 ≤ m) (w : World) (h : GvAt w b m g t u) : Calls Try.prog 44 #[.pointer (some ⟨b, 0, none⟩)] w fun e w' => e = .returned (.bool false) ∧ w = w' := by
  obtain ⟨c0, c1, c2, _, _⟩ := gv_cells h
  have e1 : ((m : Int) == 0) = false := by simp; omega
  clear h
  go_enter Try.func44, Try.ntmps44
  go_wp2
  go_ret
  exact ⟨rfl, rfl⟩
theorem gvNone_zero (b : Nat) (w : World) (h : GvAt w b 0 0 0 0) : Calls Try.prog 44 #[.pointer (some ⟨b, 0, none⟩)] w fun e w' => e = .returned (.bool true) ∧ w = w' := by
  obtain ⟨c0, c1, c2, _, _⟩ := gv_cells h
  clear h
  go_enter Try.func44, Try.ntmps44
  go_wp2
  go_ret
  exact ⟨rfl, rfl⟩
theorem gvNone_nil (w : World) : Calls Try.prog 44 #[.pointer none] w fun e w' => e = .returned (.bool true) ∧ w = w' := by
  go_enter Try.func44, Try.ntmps44
  go_wp2
  go_ret
  exact ⟨rfl, rfl⟩

theorem fits_any (s g : Nat) (n : Nat) (hs : s ≤ g) (hg : g < 9223372036854775808) (hn : n < 9223372036854775808) (w : World) :
    Calls Try.prog 43 #[.int .u64 (s : Int), .int .i64 (n : Int), .int .u64 (g : Int)] w fun e w' => e = .returned (.bool (decide ((n : Int) ≤ (g : Int) - (s : Int)))) ∧ w = w' := by
  have h1 : IntKind.u64.wrap (n : Int) = (n : Int) := by rw [IntKind.wrap_u64]; omega
  have h2 : IntKind.u64.wrap ((g : Int) - (s : Int)) = (g : Int) - (s : Int) := by rw [IntKind.wrap_u64]; omega
  clear hs hg hn
  go_enter Try.func43, Try.ntmps43
  go_wp2
  go_ret
  exact ⟨rfl, rfl⟩

theorem made_ok (n : Nat) (h1 : 1 ≤ n) (h2 : n ≤ 8192) (w : World) : Calls Try.prog 41 #[.int .i64 (n : Int)] w fun e w' => e = .returned (.tuple #[.agg #[.int .u64 (n : Int), .int .u64 (n : Int)], .bool true]) ∧ Step [] w w' := by
  have e1 : ((n : Int) < 1) = False := by simp; omega
  have e2 : ((8192 : Int) < (n : Int)) = False := by simp; omega
  have h3 : IntKind.u64.wrap (n : Int) = (n : Int) := by rw [IntKind.wrap_u64]; omega
  clear h1 h2
  go_enter Try.func41, Try.ntmps41
  go_wp2
  (try simp only [Exit.inBlock, Exit.then])
  refine bodyPost_ret (v := .tuple #[.agg #[.int .u64 (n : Int), .int .u64 (n : Int)], .bool true]) ?_ rfl ⟨rfl, ?_⟩
  · rw [results_cell_tmp rfl]
    simp [asAddr, Result.andThen, go_sem]
  · exact Step.alloc _ _
theorem may_ok (n : Nat) (h1 : 1 ≤ n) (h2 : n ≤ 8192) (w : World) : Calls Try.prog 13 #[.int .i64 (n : Int)] w fun e w' => e = .returned (.bool true) ∧ w = w' := by
  have e1 : ((1 : Int) ≤ (n : Int)) = True := by simp; omega
  have e2 : ((n : Int) ≤ 8192) = True := by simp; omega
  clear h1 h2
  go_enter Try.func13, Try.ntmps13
  go_wp2
  go_ret
  exact ⟨rfl, rfl⟩
end Go.Proofs.Ytnomnhlfenhjdaa
