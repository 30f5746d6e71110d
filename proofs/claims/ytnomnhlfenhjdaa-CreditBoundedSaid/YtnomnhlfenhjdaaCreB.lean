/- credit: contracts of the makers and of the methods. No statement is proved here; nothing is assumed. -/
import Derived.Test.YtnomnhlfenhjdaaCreA
import Derived.OwnWalkIn
import Derived.TacticsInMore
import Derived.LoopNIn
import Derived.LoopIn
import Derived.Deep.QuietTactic
import Derived.BigQuiet
import Derived.Maps.OwnIn
import Derived.Deep.RegionHeld3
import Derived.Laws.Bits64
namespace Go.Proofs.Ytnomnhlfenhjdaa
open Go.RowKit Go.Shelf
set_option linter.unusedVariables false
attribute [local go_sem] Oper.semAt_some

/-- What is answered, and what is spent then. -/
def amt (e : Int) (n : Int) (left : Nat) : Int := if n < 0 then 1 else if n ≤ (left : Int) then 0 else e
def paid (n : Int) (p left : Nat) : Nat := if n < 0 then p else if n ≤ (left : Int) then p + n.toNat else p

theorem amt_neg {e n : Int} {l : Nat} (h : n < 0) : amt e n l = 1 := if_pos h
theorem amt_ok {e : Int} {n l : Nat} (h : n ≤ l) : amt e n l = 0 := by unfold amt; rw [if_neg (by omega), if_pos (by omega)]
theorem amt_over {e : Int} {n l : Nat} (h : l < n) : amt e n l = e := by unfold amt; rw [if_neg (by omega), if_neg (by omega)]
theorem paid_neg {n : Int} {p l : Nat} (h : n < 0) : paid n p l = p := if_pos h
theorem paid_ok {n p l : Nat} (h : n ≤ l) : paid n p l = p + n := by unfold paid; rw [if_neg (by omega), if_pos (by omega)]; simp
theorem paid_over {n p l : Nat} (h : l < n) : paid n p l = p := by unfold paid; rw [if_neg (by omega), if_neg (by omega)]

theorem newSp_ok (n : Nat) (h1 : 1 ≤ n) (h2 : n ≤ 8192) (w : World) : Calls Try.prog 11 #[.int .i64 (n : Int)] w fun e w' => ∃ b, e = .returned (.tuple #[.pointer (some ⟨b, 0, none⟩), .int .i64 0]) ∧ w.heap.size ≤ b ∧ SpAt w' b n n 0 ∧ Step [] w w' := by
  go_enter Try.func11, Try.ntmps11
  go_wp2_with (go_at_call 41; refine (made_ok n h1 h2 _).mono ?_; rintro e w1 ⟨rfl, hs⟩; have HS := Lib.hid hs; clear hs)
  go_ret2
  have hsz := HS.out.size
  exact ⟨_, rfl, by omega, by unfold SpAt spObj; simp only [heap_alloc_get, World.size_alloc]; rw [if_pos trivial]; rfl, (HS.out.trans (Step.alloc _ _)).trans (Step.alloc _ _)⟩
theorem newGv_ok (n : Nat) (h1 : 1 ≤ n) (h2 : n ≤ 8192) (w : World) : Calls Try.prog 12 #[.int .i64 (n : Int)] w fun e w' => ∃ b, e = .returned (.tuple #[.pointer (some ⟨b, 0, none⟩), .int .i64 0]) ∧ w.heap.size ≤ b ∧ GvAt w' b n n 0 0 ∧ Step [] w w' := by
  go_enter Try.func12, Try.ntmps12
  go_wp2_with (go_at_call 41; refine (made_ok n h1 h2 _).mono ?_; rintro e w1 ⟨rfl, hs⟩; have HS := Lib.hid hs; clear hs)
  go_ret2
  have hsz := HS.out.size
  exact ⟨_, rfl, by omega, by unfold GvAt gvObj; simp only [heap_alloc_get, World.size_alloc]; rw [if_pos trivial]; rfl, (HS.out.trans (Step.alloc _ _)).trans (Step.alloc _ _)⟩

theorem spend_neg (b m g p : Nat) (n : Int) (hn : n < 0) (hm : 1 ≤ m) (w : World) (h : SpAt w b m g p) :
    Calls Try.prog 15 #[.pointer (some ⟨b, 0, none⟩), .int .i64 n] w fun e w' => e = .returned (.int .i64 1) ∧ SpAt w' b m g p ∧ Step [b] w w' := by
  have H := Lib.hid h
  have e1 : (n < 0) = True := by simp; omega
  clear h
  go_enter Try.func15, Try.ntmps15
  go_wp2_with (go_at_call 42; refine (spNone_any b m g p hm _ H.out).mono ?_; rintro e w' ⟨rfl, rfl⟩)
  go_ret
  exact ⟨rfl, H.out, Step.refl _ _⟩
theorem spend_nat (b m g p : Nat) (n : Nat) (hn : n < 9223372036854775808) (hm : 1 ≤ m) (hp : p ≤ g) (hg : g < 4611686018427387904) (w : World) (h : SpAt w b m g p) :
    Calls Try.prog 15 #[.pointer (some ⟨b, 0, none⟩), .int .i64 (n : Int)] w fun e w' => e = .returned (.int .i64 (amt 8 n (g - p))) ∧ SpAt w' b m g (paid n p (g - p)) ∧ Step [b] w w' := by
  obtain ⟨c0, c1, c2, f1, f2⟩ := sp_cells h
  have H := Lib.hid h
  have HN := Lib.hid hn
  have HG := Lib.hid hg
  have HP := Lib.hid hp
  have e1 : ((n : Int) < 0) = False := by simp
  have h1 : IntKind.u64.wrap (n : Int) = (n : Int) := by rw [IntKind.wrap_u64]; omega
  by_cases hle : n ≤ g - p
  · have e2 : ((n : Int) ≤ (g : Int) - (p : Int)) = True := by simp; omega
    have h2 : IntKind.u64.wrap ((p : Int) + (n : Int)) = ((p + n : Nat) : Int) := by rw [IntKind.wrap_u64]; omega
    rw [amt_ok hle, paid_ok hle]
    clear h hn hg hp hle
    go_enter Try.func15, Try.ntmps15
    go_wp2_with (first | (go_at_call 42; refine (spNone_any b m g p hm _ H.out).mono ?_; rintro e w' ⟨rfl, rfl⟩))
    go_quiet ((go_at_call 43; exact Calls.quiet_of_same ((fits_any p g n HP.out (by have := HG.out; omega) HN.out _).mono fun _ _ h => ⟨h.1, h.2.symm⟩)))
    go_wp2
    go_ret
    have h' : (w.drewN nq).heap[b]? = some (spObj m g p) := H.out
    exact ⟨rfl, setCell_obj h' 2 _, (Step.drewN w nq).trans (Step.setObj h' rfl (by simp) 2 _)⟩
  · have e2 : ((n : Int) ≤ (g : Int) - (p : Int)) = False := by simp; omega
    rw [amt_over (by omega), paid_over (by omega)]
    clear h hn hg hp hle
    go_enter Try.func15, Try.ntmps15
    go_wp2_with (first | (go_at_call 42; refine (spNone_any b m g p hm _ H.out).mono ?_; rintro e w' ⟨rfl, rfl⟩))
    go_quiet ((go_at_call 43; exact Calls.quiet_of_same ((fits_any p g n HP.out (by have := HG.out; omega) HN.out _).mono fun _ _ h => ⟨h.1, h.2.symm⟩)))
    go_wp2
    go_ret
    exact ⟨rfl, H.out, Step.drewN _ _⟩
theorem spend_any (b m g p : Nat) (n : Int) (hn : n < 9223372036854775808) (hm : 1 ≤ m) (hp : p ≤ g) (hg : g < 4611686018427387904) (w : World) (h : SpAt w b m g p) :
    Calls Try.prog 15 #[.pointer (some ⟨b, 0, none⟩), .int .i64 n] w fun e w' => e = .returned (.int .i64 (amt 8 n (g - p))) ∧ SpAt w' b m g (paid n p (g - p)) ∧ Step [b] w w' := by
  by_cases hlt : n < 0
  · rw [amt_neg hlt, paid_neg hlt]
    exact spend_neg b m g p n hlt hm w h
  · obtain ⟨k, rfl⟩ := Int.eq_ofNat_of_zero_le (show 0 ≤ n by omega)
    exact spend_nat b m g p k (by omega) hm hp hg w h

theorem refSpend_neg (b m g p : Nat) (n : Int) (hn : n < 0) (w : World) (h : RsAt w b m g p) :
    Calls Try.prog 16 #[.pointer (some ⟨b, 0, none⟩), .int .i64 n] w fun e w' => e = .returned (.int .i64 1) ∧ RsAt w' b m g p ∧ Step [b] w w' := by
  obtain ⟨c0, c1, c2, fr⟩ := rs_cells h
  have H := Lib.hid h
  have e1 : (n < 0) = True := by simp; omega
  clear h
  go_enter Try.func16, Try.ntmps16
  go_wp2
  first | (go_ret; exact ⟨rfl, H.out, Step.refl _ _⟩) | (go_quiet (fail); go_wp2; go_ret; exact ⟨rfl, H.out, Step.drewN _ _⟩)
theorem refSpend_nat (b m g p : Nat) (n : Nat) (hn : n < 9223372036854775808) (hp : p ≤ g) (hg : g < 4611686018427387904) (w : World) (h : RsAt w b m g p) :
    Calls Try.prog 16 #[.pointer (some ⟨b, 0, none⟩), .int .i64 (n : Int)] w fun e w' => e = .returned (.int .i64 (amt 8 n (g - p))) ∧ RsAt w' b m g (paid n p (g - p)) ∧ Step [b] w w' := by
  obtain ⟨c0, c1, c2, fr⟩ := rs_cells h
  have H := Lib.hid h
  have e1 : ((n : Int) < 0) = False := by simp
  have h1 : IntKind.i64.wrap ((g : Int) - (p : Int)) = ((g - p : Nat) : Int) := by rw [IntKind.wrap_i64]; omega
  by_cases hle : n ≤ g - p
  · have e2 : (((g - p : Nat) : Int) < (n : Int)) = False := by simp; omega
    have h2 : IntKind.i64.wrap ((p : Int) + (n : Int)) = ((p + n : Nat) : Int) := by rw [IntKind.wrap_i64]; omega
    rw [amt_ok hle, paid_ok hle]
    clear h hn hg hp hle
    go_enter Try.func16, Try.ntmps16
    go_wp2
    go_quiet (fail)
    go_wp2
    go_ret
    have h' : (w.drewN nq).heap[b]? = some (rsObj m g p) := H.out
    exact ⟨rfl, setCell_obj h' 2 _, (Step.drewN w nq).trans (Step.setObj h' rfl (by simp) 2 _)⟩
  · have e2 : (((g - p : Nat) : Int) < (n : Int)) = True := by simp; omega
    rw [amt_over (by omega), paid_over (by omega)]
    clear h hn hg hp hle
    go_enter Try.func16, Try.ntmps16
    go_wp2
    go_quiet (fail)
    go_wp2
    go_ret
    exact ⟨rfl, H.out, Step.drewN _ _⟩
theorem refSpend_any (b m g p : Nat) (n : Int) (hn : n < 9223372036854775808) (hp : p ≤ g) (hg : g < 4611686018427387904) (w : World) (h : RsAt w b m g p) :
    Calls Try.prog 16 #[.pointer (some ⟨b, 0, none⟩), .int .i64 n] w fun e w' => e = .returned (.int .i64 (amt 8 n (g - p))) ∧ RsAt w' b m g (paid n p (g - p)) ∧ Step [b] w w' := by
  by_cases hlt : n < 0
  · rw [amt_neg hlt, paid_neg hlt]
    exact refSpend_neg b m g p n hlt w h
  · obtain ⟨k, rfl⟩ := Int.eq_ofNat_of_zero_le (show 0 ≤ n by omega)
    exact refSpend_nat b m g p k (by omega) hp hg w h
end Go.Proofs.Ytnomnhlfenhjdaa
