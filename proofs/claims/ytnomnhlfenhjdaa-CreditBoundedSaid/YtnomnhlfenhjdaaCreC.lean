/- credit: contracts of the makers and of the methods. No statement is proved here; nothing is assumed. -/
import Derived.Test.YtnomnhlfenhjdaaCreB
import Derived.OwnWalkIn
import Derived.TacticsInMore
import Derived.LoopNIn
import Derived.LoopIn
import Derived.Deep.QuietTactic
import Derived.BigQuiet
import Derived.Maps.OwnIn
import Derived.Deep.RegionHeld3
import Derived.Laws.Bits64
namespace Go.Proofs.Ytnomnhlfenhjdaa
open Go.RowKit Go.Shelf
set_option linter.unusedVariables false
attribute [local go_sem] Oper.semAt_some


theorem refTake_neg (b m g t u : Nat) (n : Int) (hn : n < 0) (w : World) (h : RgAt w b m g t u) :
    Calls Try.prog 20 #[.pointer (some ⟨b, 0, none⟩), .int .i64 n] w fun e w' => e = .returned (.int .i64 1) ∧ RgAt w' b m g t u ∧ Step [b] w w' := by
  obtain ⟨c0, c1, c2, c3, fr⟩ := rg_cells h
  have H := Lib.hid h
  have e1 : (n < 0) = True := by simp; omega
  clear h
  go_enter Try.func20, Try.ntmps20
  go_wp2
  first | (go_ret; exact ⟨rfl, H.out, Step.refl _ _⟩) | (go_quiet (fail); go_wp2; go_ret; exact ⟨rfl, H.out, Step.drewN _ _⟩)
theorem refTake_nat (b m g t u : Nat) (n : Nat) (hn : n < 9223372036854775808) (hp : t ≤ g) (hg : g < 4611686018427387904) (w : World) (h : RgAt w b m g t u) :
    Calls Try.prog 20 #[.pointer (some ⟨b, 0, none⟩), .int .i64 (n : Int)] w fun e w' => e = .returned (.int .i64 (amt 7 n (g - t))) ∧ RgAt w' b m g (paid n t (g - t)) u ∧ Step [b] w w' := by
  obtain ⟨c0, c1, c2, c3, fr⟩ := rg_cells h
  have H := Lib.hid h
  have e1 : ((n : Int) < 0) = False := by simp
  have h1 : IntKind.i64.wrap ((g : Int) - (t : Int)) = ((g - t : Nat) : Int) := by rw [IntKind.wrap_i64]; omega
  by_cases hle : n ≤ g - t
  · have e2 : (((g - t : Nat) : Int) < (n : Int)) = False := by simp; omega
    have h2 : IntKind.i64.wrap ((t : Int) + (n : Int)) = ((t + n : Nat) : Int) := by rw [IntKind.wrap_i64]; omega
    rw [amt_ok hle, paid_ok hle]
    clear h hn hg hp hle
    go_enter Try.func20, Try.ntmps20
    go_wp2
    go_quiet (fail)
    go_wp2
    go_ret
    have h' : (w.drewN nq).heap[b]? = some (rgObj m g t u) := H.out
    exact ⟨rfl, setCell_obj h' 2 _, (Step.drewN w nq).trans (Step.setObj h' rfl (by simp) 2 _)⟩
  · have e2 : (((g - t : Nat) : Int) < (n : Int)) = True := by simp; omega
    rw [amt_over (by omega), paid_over (by omega)]
    clear h hn hg hp hle
    go_enter Try.func20, Try.ntmps20
    go_wp2
    go_quiet (fail)
    go_wp2
    go_ret
    exact ⟨rfl, H.out, Step.drewN _ _⟩
theorem refTake_any (b m g t u : Nat) (n : Int) (hn : n < 9223372036854775808) (hp : t ≤ g) (hg : g < 4611686018427387904) (w : World) (h : RgAt w b m g t u) :
    Calls Try.prog 20 #[.pointer (some ⟨b, 0, none⟩), .int .i64 n] w fun e w' => e = .returned (.int .i64 (amt 7 n (g - t))) ∧ RgAt w' b m g (paid n t (g - t)) u ∧ Step [b] w w' := by
  by_cases hlt : n < 0
  · rw [amt_neg hlt, paid_neg hlt]
    exact refTake_neg b m g t u n hlt w h
  · obtain ⟨k, rfl⟩ := Int.eq_ofNat_of_zero_le (show 0 ≤ n by omega)
    exact refTake_nat b m g t u k (by omega) hp hg w h

theorem refUse_neg (b m g t u : Nat) (n : Int) (hn : n < 0) (w : World) (h : RgAt w b m g t u) :
    Calls Try.prog 22 #[.pointer (some ⟨b, 0, none⟩), .int .i64 n] w fun e w' => e = .returned (.int .i64 1) ∧ RgAt w' b m g t u ∧ Step [b] w w' := by
  obtain ⟨c0, c1, c2, c3, fr⟩ := rg_cells h
  have H := Lib.hid h
  have e1 : (n < 0) = True := by simp; omega
  clear h
  go_enter Try.func22, Try.ntmps22
  go_wp2
  first | (go_ret; exact ⟨rfl, H.out, Step.refl _ _⟩) | (go_quiet (fail); go_wp2; go_ret; exact ⟨rfl, H.out, Step.drewN _ _⟩)
theorem refUse_nat (b m g t u : Nat) (n : Nat) (hn : n < 9223372036854775808) (hp : u ≤ t) (hg : t < 4611686018427387904) (w : World) (h : RgAt w b m g t u) :
    Calls Try.prog 22 #[.pointer (some ⟨b, 0, none⟩), .int .i64 (n : Int)] w fun e w' => e = .returned (.int .i64 (amt 1 n (t - u))) ∧ RgAt w' b m g t (paid n u (t - u)) ∧ Step [b] w w' := by
  obtain ⟨c0, c1, c2, c3, fr⟩ := rg_cells h
  have H := Lib.hid h
  have e1 : ((n : Int) < 0) = False := by simp
  have h1 : IntKind.i64.wrap ((t : Int) - (u : Int)) = ((t - u : Nat) : Int) := by rw [IntKind.wrap_i64]; omega
  by_cases hle : n ≤ t - u
  · have e2 : (((t - u : Nat) : Int) < (n : Int)) = False := by simp; omega
    have h2 : IntKind.i64.wrap ((u : Int) + (n : Int)) = ((u + n : Nat) : Int) := by rw [IntKind.wrap_i64]; omega
    rw [amt_ok hle, paid_ok hle]
    clear h hn hg hp hle
    go_enter Try.func22, Try.ntmps22
    go_wp2
    go_quiet (fail)
    go_wp2
    go_ret
    have h' : (w.drewN nq).heap[b]? = some (rgObj m g t u) := H.out
    exact ⟨rfl, setCell_obj h' 3 _, (Step.drewN w nq).trans (Step.setObj h' rfl (by simp) 3 _)⟩
  · have e2 : (((t - u : Nat) : Int) < (n : Int)) = True := by simp; omega
    rw [amt_over (by omega), paid_over (by omega)]
    clear h hn hg hp hle
    go_enter Try.func22, Try.ntmps22
    go_wp2
    go_quiet (fail)
    go_wp2
    go_ret
    exact ⟨rfl, H.out, Step.drewN _ _⟩
theorem refUse_any (b m g t u : Nat) (n : Int) (hn : n < 9223372036854775808) (hp : u ≤ t) (hg : t < 4611686018427387904) (w : World) (h : RgAt w b m g t u) :
    Calls Try.prog 22 #[.pointer (some ⟨b, 0, none⟩), .int .i64 n] w fun e w' => e = .returned (.int .i64 (amt 1 n (t - u))) ∧ RgAt w' b m g t (paid n u (t - u)) ∧ Step [b] w w' := by
  by_cases hlt : n < 0
  · rw [amt_neg hlt, paid_neg hlt]
    exact refUse_neg b m g t u n hlt w h
  · obtain ⟨k, rfl⟩ := Int.eq_ofNat_of_zero_le (show 0 ≤ n by omega)
    exact refUse_nat b m g t u k (by omega) hp hg w h

theorem take_neg (b m g t u : Nat) (n : Int) (hn : n < 0) (hm : 1 ≤ m) (w : World) (h : GvAt w b m g t u) :
    Calls Try.prog 19 #[.pointer (some ⟨b, 0, none⟩), .int .i64 n] w fun e w' => e = .returned (.int .i64 1) ∧ GvAt w' b m g t u ∧ Step [b] w w' := by
  obtain ⟨c0, c1, c2, c3, f1, f2, f3⟩ := gv_cells h
  have H := Lib.hid h
  have e1 : (n < 0) = True := by simp; omega
  clear h
  go_enter Try.func19, Try.ntmps19
  go_wp2_with (go_at_call 44; refine (gvNone_any b m g t u hm _ H.out).mono ?_; rintro e w' ⟨rfl, rfl⟩)
  first | (go_ret; exact ⟨rfl, H.out, Step.refl _ _⟩) | (go_quiet (fail); go_wp2; go_ret; exact ⟨rfl, H.out, Step.drewN _ _⟩)
theorem take_nat (b m g t u : Nat) (n : Nat) (hn : n < 9223372036854775808) (hm : 1 ≤ m) (hp : t ≤ g) (hg : g < 4611686018427387904) (w : World) (h : GvAt w b m g t u) :
    Calls Try.prog 19 #[.pointer (some ⟨b, 0, none⟩), .int .i64 (n : Int)] w fun e w' => e = .returned (.int .i64 (amt 7 n (g - t))) ∧ GvAt w' b m g (paid n t (g - t)) u ∧ Step [b] w w' := by
  obtain ⟨c0, c1, c2, c3, f1, f2, f3⟩ := gv_cells h
  have H := Lib.hid h
  have HN := Lib.hid hn
  have HG := Lib.hid hg
  have HP := Lib.hid hp
  have e1 : ((n : Int) < 0) = False := by simp
  have h1 : IntKind.u64.wrap (n : Int) = (n : Int) := by rw [IntKind.wrap_u64]; omega
  by_cases hle : n ≤ g - t
  · have e2 : ((n : Int) ≤ (g : Int) - (t : Int)) = True := by simp; omega
    have h2 : IntKind.u64.wrap ((t : Int) + (n : Int)) = ((t + n : Nat) : Int) := by rw [IntKind.wrap_u64]; omega
    rw [amt_ok hle, paid_ok hle]
    clear h hn hg hp hle
    go_enter Try.func19, Try.ntmps19
    go_wp2_with (first | (go_at_call 44; refine (gvNone_any b m g t u hm _ H.out).mono ?_; rintro e w' ⟨rfl, rfl⟩))
    go_quiet ((go_at_call 43; exact Calls.quiet_of_same ((fits_any t g n HP.out (by have := HG.out; omega) HN.out _).mono fun _ _ h => ⟨h.1, h.2.symm⟩)))
    go_wp2
    go_ret
    have h' : (w.drewN nq).heap[b]? = some (gvObj m g t u) := H.out
    exact ⟨rfl, setCell_obj h' 2 _, (Step.drewN w nq).trans (Step.setObj h' rfl (by simp) 2 _)⟩
  · have e2 : ((n : Int) ≤ (g : Int) - (t : Int)) = False := by simp; omega
    rw [amt_over (by omega), paid_over (by omega)]
    clear h hn hg hp hle
    go_enter Try.func19, Try.ntmps19
    go_wp2_with (first | (go_at_call 44; refine (gvNone_any b m g t u hm _ H.out).mono ?_; rintro e w' ⟨rfl, rfl⟩))
    go_quiet ((go_at_call 43; exact Calls.quiet_of_same ((fits_any t g n HP.out (by have := HG.out; omega) HN.out _).mono fun _ _ h => ⟨h.1, h.2.symm⟩)))
    go_wp2
    go_ret
    exact ⟨rfl, H.out, Step.drewN _ _⟩
theorem take_any (b m g t u : Nat) (n : Int) (hn : n < 9223372036854775808) (hm : 1 ≤ m) (hp : t ≤ g) (hg : g < 4611686018427387904) (w : World) (h : GvAt w b m g t u) :
    Calls Try.prog 19 #[.pointer (some ⟨b, 0, none⟩), .int .i64 n] w fun e w' => e = .returned (.int .i64 (amt 7 n (g - t))) ∧ GvAt w' b m g (paid n t (g - t)) u ∧ Step [b] w w' := by
  by_cases hlt : n < 0
  · rw [amt_neg hlt, paid_neg hlt]
    exact take_neg b m g t u n hlt hm w h
  · obtain ⟨k, rfl⟩ := Int.eq_ofNat_of_zero_le (show 0 ≤ n by omega)
    exact take_nat b m g t u k (by omega) hm hp hg w h

theorem use_neg (b m g t u : Nat) (n : Int) (hn : n < 0) (hm : 1 ≤ m) (w : World) (h : GvAt w b m g t u) :
    Calls Try.prog 21 #[.pointer (some ⟨b, 0, none⟩), .int .i64 n] w fun e w' => e = .returned (.int .i64 1) ∧ GvAt w' b m g t u ∧ Step [b] w w' := by
  obtain ⟨c0, c1, c2, c3, f1, f2, f3⟩ := gv_cells h
  have H := Lib.hid h
  have e1 : (n < 0) = True := by simp; omega
  clear h
  go_enter Try.func21, Try.ntmps21
  go_wp2_with (go_at_call 44; refine (gvNone_any b m g t u hm _ H.out).mono ?_; rintro e w' ⟨rfl, rfl⟩)
  first | (go_ret; exact ⟨rfl, H.out, Step.refl _ _⟩) | (go_quiet (fail); go_wp2; go_ret; exact ⟨rfl, H.out, Step.drewN _ _⟩)
theorem use_nat (b m g t u : Nat) (n : Nat) (hn : n < 9223372036854775808) (hm : 1 ≤ m) (hp : u ≤ t) (hg : t < 4611686018427387904) (w : World) (h : GvAt w b m g t u) :
    Calls Try.prog 21 #[.pointer (some ⟨b, 0, none⟩), .int .i64 (n : Int)] w fun e w' => e = .returned (.int .i64 (amt 1 n (t - u))) ∧ GvAt w' b m g t (paid n u (t - u)) ∧ Step [b] w w' := by
  obtain ⟨c0, c1, c2, c3, f1, f2, f3⟩ := gv_cells h
  have H := Lib.hid h
  have HN := Lib.hid hn
  have HG := Lib.hid hg
  have HP := Lib.hid hp
  have e1 : ((n : Int) < 0) = False := by simp
  have h1 : IntKind.u64.wrap (n : Int) = (n : Int) := by rw [IntKind.wrap_u64]; omega
  by_cases hle : n ≤ t - u
  · have e2 : ((n : Int) ≤ (t : Int) - (u : Int)) = True := by simp; omega
    have h2 : IntKind.u64.wrap ((u : Int) + (n : Int)) = ((u + n : Nat) : Int) := by rw [IntKind.wrap_u64]; omega
    rw [amt_ok hle, paid_ok hle]
    clear h hn hg hp hle
    go_enter Try.func21, Try.ntmps21
    go_wp2_with (first | (go_at_call 44; refine (gvNone_any b m g t u hm _ H.out).mono ?_; rintro e w' ⟨rfl, rfl⟩))
    go_quiet ((go_at_call 43; exact Calls.quiet_of_same ((fits_any u t n HP.out (by have := HG.out; omega) HN.out _).mono fun _ _ h => ⟨h.1, h.2.symm⟩)))
    go_wp2
    go_ret
    have h' : (w.drewN nq).heap[b]? = some (gvObj m g t u) := H.out
    exact ⟨rfl, setCell_obj h' 3 _, (Step.drewN w nq).trans (Step.setObj h' rfl (by simp) 3 _)⟩
  · have e2 : ((n : Int) ≤ (t : Int) - (u : Int)) = False := by simp; omega
    rw [amt_over (by omega), paid_over (by omega)]
    clear h hn hg hp hle
    go_enter Try.func21, Try.ntmps21
    go_wp2_with (first | (go_at_call 44; refine (gvNone_any b m g t u hm _ H.out).mono ?_; rintro e w' ⟨rfl, rfl⟩))
    go_quiet ((go_at_call 43; exact Calls.quiet_of_same ((fits_any u t n HP.out (by have := HG.out; omega) HN.out _).mono fun _ _ h => ⟨h.1, h.2.symm⟩)))
    go_wp2
    go_ret
    exact ⟨rfl, H.out, Step.drewN _ _⟩
theorem use_any (b m g t u : Nat) (n : Int) (hn : n < 9223372036854775808) (hm : 1 ≤ m) (hp : u ≤ t) (hg : t < 4611686018427387904) (w : World) (h : GvAt w b m g t u) :
    Calls Try.prog 21 #[.pointer (some ⟨b, 0, none⟩), .int .i64 n] w fun e w' => e = .returned (.int .i64 (amt 1 n (t - u))) ∧ GvAt w' b m g t (paid n u (t - u)) ∧ Step [b] w w' := by
  by_cases hlt : n < 0
  · rw [amt_neg hlt, paid_neg hlt]
    exact use_neg b m g t u n hlt hm w h
  · obtain ⟨k, rfl⟩ := Int.eq_ofNat_of_zero_le (show 0 ≤ n by omega)
    exact use_nat b m g t u k (by omega) hm hp hg w h
end Go.Proofs.Ytnomnhlfenhjdaa
