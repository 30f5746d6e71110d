/- credit: contracts of Granted, Grant, Left, Held. No statement is proved here; nothing is assumed. -/
import Derived.Test.YtnomnhlfenhjdaaCreB
import Derived.OwnWalkIn
import Derived.TacticsInMore
import Derived.LoopNIn
import Derived.LoopIn
import Derived.Deep.QuietTactic
import Derived.BigQuiet
import Derived.Maps.OwnIn
import Derived.Deep.RegionHeld3
import Derived.Laws.Bits64
namespace Go.Proofs.Ytnomnhlfenhjdaa
open Go.RowKit Go.Shelf
set_option linter.unusedVariables false
attribute [local go_sem] Oper.semAt_some


def lateE (m p T : Nat) : Nat := if p + m < T then 24 else 0
def lateG (m g p T : Nat) : Nat := if p + m < T then g else max g T

theorem granted_any (b m g p T : Nat) (hm : 1 ≤ m) (hm2 : m ≤ 8192) (hp : p ≤ g) (hg : g < 4611686018427387904) (hT : T < 18446744073709551616) (w : World) (h : SpAt w b m g p) :
    Calls Try.prog 17 #[.pointer (some ⟨b, 0, none⟩), .int .u64 (T : Int)] w fun e w' => e = .returned (.int .i64 (lateE m p T : Nat)) ∧ SpAt w' b m (lateG m g p T) p ∧ Step [b] w w' := by
  obtain ⟨c0, c1, c2, f1, f2⟩ := sp_cells h
  have H := Lib.hid h
  unfold lateE lateG
  by_cases h0 : T ≤ p
  · rw [if_neg (by omega), if_neg (by omega)]
    have e1 : ((p : Int) < (T : Int)) = False := by simp; omega
    have e3 : ((g : Int) < (T : Int)) = False := by simp; omega
    rw [show max g T = g from by omega]
    clear h hT hg hp h0
    go_enter Try.func17, Try.ntmps17
    go_wp2_with (first | (go_at_call 42; refine (spNone_any b m g p hm _ H.out).mono ?_; rintro e w' ⟨rfl, rfl⟩))
    go_quiet (fail)
    go_wp2
    go_ret
    have h' : (w.drewN nq).heap[b]? = some (spObj m g p) := H.out
    exact ⟨rfl, setCell_obj h' 1 _, (Step.drewN w nq).trans (Step.setObj h' rfl (by simp) 1 _)⟩
  · have h1 : IntKind.u64.wrap ((T : Int) - (p : Int)) = (T : Int) - (p : Int) := by rw [IntKind.wrap_u64]; omega
    by_cases h2 : p + m < T
    · have e1 : ((p : Int) < (T : Int)) = True := by simp; omega
      have e2 : ((m : Int) < (T : Int) - (p : Int)) = True := by simp; omega
      rw [if_pos h2, if_pos h2]
      clear h hT hg hp h0 h2
      go_enter Try.func17, Try.ntmps17
      go_wp2_with (first | (go_at_call 42; refine (spNone_any b m g p hm _ H.out).mono ?_; rintro e w' ⟨rfl, rfl⟩))
      go_quiet (fail)
      go_wp2
      go_ret
      exact ⟨rfl, H.out, Step.drewN _ _⟩
    · have e1 : ((p : Int) < (T : Int)) = True := by simp; omega
      have e2 : ((m : Int) < (T : Int) - (p : Int)) = False := by simp; omega
      rw [if_neg h2, if_neg h2]
      by_cases h5 : g < T
      · have e3 : ((g : Int) < (T : Int)) = True := by simp; omega
        rw [show max g T = T from by omega]
        clear h hT hg hp h0 h2 h5
        go_enter Try.func17, Try.ntmps17
        go_wp2_with (first | (go_at_call 42; refine (spNone_any b m g p hm _ H.out).mono ?_; rintro e w' ⟨rfl, rfl⟩))
        go_quiet (fail)
        go_wp2
        go_ret
        have h' : (w.drewN nq).heap[b]? = some (spObj m g p) := H.out
        exact ⟨rfl, setCell_obj h' 1 _, (Step.drewN w nq).trans (Step.setObj h' rfl (by simp) 1 _)⟩
      · have e3 : ((g : Int) < (T : Int)) = False := by simp; omega
        rw [show max g T = g from by omega]
        clear h hT hg hp h0 h2 h5
        go_enter Try.func17, Try.ntmps17
        go_wp2_with (first | (go_at_call 42; refine (spNone_any b m g p hm _ H.out).mono ?_; rintro e w' ⟨rfl, rfl⟩))
        go_quiet (fail)
        go_wp2
        go_ret
        have h' : (w.drewN nq).heap[b]? = some (spObj m g p) := H.out
        exact ⟨rfl, setCell_obj h' 1 _, (Step.drewN w nq).trans (Step.setObj h' rfl (by simp) 1 _)⟩
theorem refGranted_any (b m g p T : Nat) (hm2 : m ≤ 8192) (hp : p ≤ g) (hg : g < 4611686018427387904) (hT : T < 18446744073709551616) (w : World) (h : RsAt w b m g p) :
    Calls Try.prog 18 #[.pointer (some ⟨b, 0, none⟩), .int .u64 (T : Int)] w fun e w' => e = .returned (.int .i64 (lateE m p T : Nat)) ∧ RsAt w' b m (lateG m g p T) p ∧ Step [b] w w' := by
  obtain ⟨c0, c1, c2, f1, f2⟩ := rs_cells h
  have H := Lib.hid h
  have h1 : IntKind.i64.wrap ((p : Int) + (m : Int)) = (p : Int) + (m : Int) := by rw [IntKind.wrap_i64]; omega
  have h3 : IntKind.u64.wrap ((p : Int) + (m : Int)) = (p : Int) + (m : Int) := by rw [IntKind.wrap_u64]; omega
  have h4 : IntKind.u64.wrap (g : Int) = (g : Int) := by rw [IntKind.wrap_u64]; omega
  unfold lateE lateG
  by_cases h0 : p + m < T
  · have e1 : ((p : Int) + (m : Int) < (T : Int)) = True := by simp; omega
    rw [if_pos h0, if_pos h0]
    clear h hT hg hp h0
    go_enter Try.func18, Try.ntmps18
    go_wp2
    go_quiet (fail)
    go_wp2
    go_ret
    exact ⟨rfl, H.out, Step.drewN _ _⟩
  · have e1 : ((p : Int) + (m : Int) < (T : Int)) = False := by simp; omega
    rw [if_neg h0, if_neg h0]
    have h5 : IntKind.i64.wrap (T : Int) = (T : Int) := by rw [IntKind.wrap_i64]; omega
    by_cases h2 : g < T
    · have e2 : ((g : Int) < (T : Int)) = True := by simp; omega
      rw [show max g T = T from by omega]
      clear h hT hg hp h0 h2
      go_enter Try.func18, Try.ntmps18
      go_wp2
      go_quiet (fail)
      go_wp2
      go_ret
      have h' : (w.drewN nq).heap[b]? = some (rsObj m g p) := H.out
      exact ⟨rfl, setCell_obj h' 1 _, (Step.drewN w nq).trans (Step.setObj h' rfl (by simp) 1 _)⟩
    · have e2 : ((g : Int) < (T : Int)) = False := by simp; omega
      rw [show max g T = g from by omega]
      clear h hT hg hp h0 h2
      go_enter Try.func18, Try.ntmps18
      go_wp2
      go_quiet (fail)
      go_wp2
      go_ret
      exact ⟨rfl, H.out, Step.drewN _ _⟩

theorem left_any (b m g p : Nat) (hm : 1 ≤ m) (hp : p ≤ g) (hg : g < 4611686018427387904) (w : World) (h : SpAt w b m g p) :
    Calls Try.prog 25 #[.pointer (some ⟨b, 0, none⟩)] w fun e w' => e = .returned (.int .i64 ((g - p : Nat) : Int)) ∧ ∃ n, w' = w.drewN n := by
  obtain ⟨c0, c1, c2, f1, f2⟩ := sp_cells h
  have H := Lib.hid h
  have h1 : IntKind.u64.wrap ((g : Int) - (p : Int)) = ((g - p : Nat) : Int) := by rw [IntKind.wrap_u64]; omega
  have h2 : IntKind.i64.wrap ((g - p : Nat) : Int) = ((g - p : Nat) : Int) := by rw [IntKind.wrap_i64]; omega
  clear h hp hg
  go_enter Try.func25, Try.ntmps25
  go_wp2_with (first | (go_at_call 42; refine (spNone_any b m g p hm _ H.out).mono ?_; rintro e w' ⟨rfl, rfl⟩))
  go_quiet (fail)
  go_wp2
  go_ret
  exact ⟨rfl, _, rfl⟩
theorem held_any (b m g t u : Nat) (hm : 1 ≤ m) (hp : u ≤ t) (hg : t < 4611686018427387904) (w : World) (h : GvAt w b m g t u) :
    Calls Try.prog 26 #[.pointer (some ⟨b, 0, none⟩)] w fun e w' => e = .returned (.int .i64 ((t - u : Nat) : Int)) ∧ ∃ n, w' = w.drewN n := by
  obtain ⟨c0, c1, c2, c3, f1, f2⟩ := gv_cells h
  have H := Lib.hid h
  have h1 : IntKind.u64.wrap ((t : Int) - (u : Int)) = ((t - u : Nat) : Int) := by rw [IntKind.wrap_u64]; omega
  have h2 : IntKind.i64.wrap ((t - u : Nat) : Int) = ((t - u : Nat) : Int) := by rw [IntKind.wrap_i64]; omega
  clear h hp hg
  go_enter Try.func26, Try.ntmps26
  go_wp2_with (first | (go_at_call 44; refine (gvNone_any b m g t u hm _ H.out).mono ?_; rintro e w' ⟨rfl, rfl⟩))
  go_quiet (fail)
  go_wp2
  go_ret
  exact ⟨rfl, _, rfl⟩

/-- A grant is due; what is granted then. -/
def due (m g u : Nat) : Bool := decide (max (m / 2) 1 ≤ u + m - g)
def dueN (m g u : Nat) : Nat := if max (m / 2) 1 ≤ u + m - g then u + m else 0
def dueG (m g u : Nat) : Nat := if max (m / 2) 1 ≤ u + m - g then u + m else g

theorem keep03 {W : World} {b : Nat} {v x y : Value} (h : W.cell? ⟨b, 0, none⟩ = some x ∧ W.cell? ⟨b, 3, none⟩ = some y) : (W.setCell ⟨b, 1, none⟩ v).cell? ⟨b, 0, none⟩ = some x ∧ (W.setCell ⟨b, 1, none⟩ v).cell? ⟨b, 3, none⟩ = some y := by
  refine ⟨?_, ?_⟩
  · exact (World.cell?_setCell_other W (a := ⟨b, 1, none⟩) (b := ⟨b, 0, none⟩) v (by simp)).trans h.1
  · exact (World.cell?_setCell_other W (a := ⟨b, 1, none⟩) (b := ⟨b, 3, none⟩) v (by simp)).trans h.2
theorem gvNone_q (b m g t u : Nat) (hm : 1 ≤ m) (w : World) (h : GvAt w b m g t u) : Calls Try.prog 44 #[.pointer (some ⟨b, 0, none⟩)] w fun e w' => e = .returned (.bool false) ∧ w' = w :=
  (gvNone_any b m g t u hm w h).mono fun _ _ h => ⟨h.1, h.2.symm⟩

theorem grant_any (b m g t u : Nat) (hm : 1 ≤ m) (hm2 : m ≤ 8192) (hg : g ≤ u + m) (hu : u < 4611686018427387904) (w : World) (h : GvAt w b m g t u) :
    Calls Try.prog 23 #[.pointer (some ⟨b, 0, none⟩)] w fun e w' => e = .returned (.tuple #[.int .u64 (dueN m g u : Nat), .bool (due m g u)]) ∧ GvAt w' b m (dueG m g u) t u ∧ Step [b] w w' := by
  obtain ⟨c0, c1, c2, c3, f1, f2⟩ := gv_cells h
  have H := Lib.hid h
  have h1 : IntKind.u64.wrap ((u : Int) + (m : Int)) = (u : Int) + (m : Int) := by rw [IntKind.wrap_u64]; omega
  have h2 : IntKind.u64.wrap ((u : Int) + (m : Int) - (g : Int)) = ((u + m - g : Nat) : Int) := by rw [IntKind.wrap_u64]; omega
  have h4 : IntKind.u64.wrap ((m : Int) / 2) = ((m / 2 : Nat) : Int) := by rw [IntKind.wrap_u64]; omega
  unfold dueN due dueG
  by_cases h6 : m / 2 < 1
  · have e5 : (((m / 2 : Nat) : Int) < 1) = True := by simp; omega
    by_cases h0 : max (m / 2) 1 ≤ u + m - g
    · have e1 : (((u + m - g : Nat) : Int) < 1) = False := by simp; omega
      rw [if_pos h0, if_pos h0, decide_eq_true h0]
      clear h hg hu h0 h6
      generalize m / 2 = mh at *
      generalize u + m - g = dd at *
      go_enter Try.func23, Try.ntmps23
      go_wp2
      go_quiet ((go_at_call 44; exact Calls.quiet_of_same (gvNone_q b m g t u hm _ H.out)))
      go_wp2
      have k0 : (w.drewN nq).cell? ⟨b, 0, none⟩ = some (.int .u64 (m : Int)) := c0
      have k3 : (w.drewN nq).cell? ⟨b, 3, none⟩ = some (.int .u64 (u : Int)) := c3
      go_region_held3 (fun W => W.cell? ⟨b, 0, none⟩ = some (.int .u64 (m : Int)) ∧ W.cell? ⟨b, 3, none⟩ = some (.int .u64 (u : Int))) (first | exact ⟨k0, k3⟩ | exact keep03 ⟨k0, k3⟩) (fail)
      have h' : (w.drewN (nq + 1)).heap[b]? = some (gvObj m g t u) := H.out
      go_wp2
      go_ret2
      exact ⟨rfl, setCell_obj h' 1 _, (Step.drewN w _).trans (Step.setObj h' rfl (by simp) 1 _)⟩
    · have e1 : (((u + m - g : Nat) : Int) < 1) = True := by simp; omega
      rw [if_neg h0, if_neg h0, decide_eq_false h0]
      clear h hg hu h0 h6
      generalize m / 2 = mh at *
      generalize u + m - g = dd at *
      go_enter Try.func23, Try.ntmps23
      go_wp2
      go_quiet ((go_at_call 44; exact Calls.quiet_of_same (gvNone_q b m g t u hm _ H.out)))
      go_wp2
      go_ret2
      exact ⟨rfl, H.out, Step.drewN _ _⟩
  · have e5 : (((m / 2 : Nat) : Int) < 1) = False := by simp; omega
    by_cases h0 : max (m / 2) 1 ≤ u + m - g
    · have e1 : (((u + m - g : Nat) : Int) < ((m / 2 : Nat) : Int)) = False := by simp; omega
      rw [if_pos h0, if_pos h0, decide_eq_true h0]
      clear h hg hu h0 h6
      generalize m / 2 = mh at *
      generalize u + m - g = dd at *
      go_enter Try.func23, Try.ntmps23
      go_wp2
      go_quiet ((go_at_call 44; exact Calls.quiet_of_same (gvNone_q b m g t u hm _ H.out)))
      go_wp2
      have k0 : (w.drewN nq).cell? ⟨b, 0, none⟩ = some (.int .u64 (m : Int)) := c0
      have k3 : (w.drewN nq).cell? ⟨b, 3, none⟩ = some (.int .u64 (u : Int)) := c3
      go_region_held3 (fun W => W.cell? ⟨b, 0, none⟩ = some (.int .u64 (m : Int)) ∧ W.cell? ⟨b, 3, none⟩ = some (.int .u64 (u : Int))) (first | exact ⟨k0, k3⟩ | exact keep03 ⟨k0, k3⟩) (fail)
      have h' : (w.drewN (nq + 1)).heap[b]? = some (gvObj m g t u) := H.out
      go_wp2
      go_ret2
      exact ⟨rfl, setCell_obj h' 1 _, (Step.drewN w _).trans (Step.setObj h' rfl (by simp) 1 _)⟩
    · have e1 : (((u + m - g : Nat) : Int) < ((m / 2 : Nat) : Int)) = True := by simp; omega
      rw [if_neg h0, if_neg h0, decide_eq_false h0]
      clear h hg hu h0 h6
      generalize m / 2 = mh at *
      generalize u + m - g = dd at *
      go_enter Try.func23, Try.ntmps23
      go_wp2
      go_quiet ((go_at_call 44; exact Calls.quiet_of_same (gvNone_q b m g t u hm _ H.out)))
      go_wp2
      go_ret2
      exact ⟨rfl, H.out, Step.drewN _ _⟩

theorem refGrant_any (b m g t u : Nat) (hm : 1 ≤ m) (hm2 : m ≤ 8192) (hg : g ≤ u + m) (hu : u < 4611686018427387904) (w : World) (h : RgAt w b m g t u) :
    Calls Try.prog 24 #[.pointer (some ⟨b, 0, none⟩)] w fun e w' => e = .returned (.tuple #[.int .i64 (dueN m g u : Nat), .bool (due m g u)]) ∧ RgAt w' b m (dueG m g u) t u ∧ Step [b] w w' := by
  obtain ⟨c0, c1, c2, c3, f1, f2⟩ := rg_cells h
  have H := Lib.hid h
  have h1 : IntKind.i64.wrap ((u : Int) + (m : Int)) = (u : Int) + (m : Int) := by rw [IntKind.wrap_i64]; omega
  have h2 : IntKind.i64.wrap ((u : Int) + (m : Int) - (g : Int)) = ((u + m - g : Nat) : Int) := by rw [IntKind.wrap_i64]; omega
  have h4 : (m : Int) / 2 = ((m / 2 : Nat) : Int) := by omega
  unfold dueN due dueG
  by_cases h6 : m / 2 < 1
  · have e5 : (((m / 2 : Nat) : Int) == 0) = true := by simp; omega
    by_cases h0 : max (m / 2) 1 ≤ u + m - g
    · have e1 : (((u + m - g : Nat) : Int) < 1) = False := by simp; omega
      rw [if_pos h0, if_pos h0, decide_eq_true h0]
      clear h hg hu h0 h6
      generalize m / 2 = mh at *
      generalize u + m - g = dd at *
      go_enter Try.func24, Try.ntmps24
      go_wp2
      go_quiet (fail)
      go_wp2
      have k0 : (w.drewN nq).cell? ⟨b, 0, none⟩ = some (.int .i64 (m : Int)) := c0
      have k3 : (w.drewN nq).cell? ⟨b, 3, none⟩ = some (.int .i64 (u : Int)) := c3
      go_region_held3 (fun W => W.cell? ⟨b, 0, none⟩ = some (.int .i64 (m : Int)) ∧ W.cell? ⟨b, 3, none⟩ = some (.int .i64 (u : Int))) (first | exact ⟨k0, k3⟩ | exact keep03 ⟨k0, k3⟩) (fail)
      have h' : (w.drewN (nq + 1)).heap[b]? = some (rgObj m g t u) := H.out
      go_wp2
      go_ret2
      exact ⟨rfl, setCell_obj h' 1 _, (Step.drewN w _).trans (Step.setObj h' rfl (by simp) 1 _)⟩
    · have e1 : (((u + m - g : Nat) : Int) < 1) = True := by simp; omega
      rw [if_neg h0, if_neg h0, decide_eq_false h0]
      clear h hg hu h0 h6
      generalize m / 2 = mh at *
      generalize u + m - g = dd at *
      go_enter Try.func24, Try.ntmps24
      go_wp2
      go_quiet (fail)
      go_wp2
      go_ret2
      exact ⟨rfl, H.out, Step.drewN _ _⟩
  · have e5 : (((m / 2 : Nat) : Int) == 0) = false := by simp; omega
    by_cases h0 : max (m / 2) 1 ≤ u + m - g
    · have e1 : (((u + m - g : Nat) : Int) < ((m / 2 : Nat) : Int)) = False := by simp; omega
      rw [if_pos h0, if_pos h0, decide_eq_true h0]
      clear h hg hu h0 h6
      generalize m / 2 = mh at *
      generalize u + m - g = dd at *
      go_enter Try.func24, Try.ntmps24
      go_wp2
      go_quiet (fail)
      go_wp2
      have k0 : (w.drewN nq).cell? ⟨b, 0, none⟩ = some (.int .i64 (m : Int)) := c0
      have k3 : (w.drewN nq).cell? ⟨b, 3, none⟩ = some (.int .i64 (u : Int)) := c3
      go_region_held3 (fun W => W.cell? ⟨b, 0, none⟩ = some (.int .i64 (m : Int)) ∧ W.cell? ⟨b, 3, none⟩ = some (.int .i64 (u : Int))) (first | exact ⟨k0, k3⟩ | exact keep03 ⟨k0, k3⟩) (fail)
      have h' : (w.drewN (nq + 1)).heap[b]? = some (rgObj m g t u) := H.out
      go_wp2
      go_ret2
      exact ⟨rfl, setCell_obj h' 1 _, (Step.drewN w _).trans (Step.setObj h' rfl (by simp) 1 _)⟩
    · have e1 : (((u + m - g : Nat) : Int) < ((m / 2 : Nat) : Int)) = True := by simp; omega
      rw [if_neg h0, if_neg h0, decide_eq_false h0]
      clear h hg hu h0 h6
      generalize m / 2 = mh at *
      generalize u + m - g = dd at *
      go_enter Try.func24, Try.ntmps24
      go_wp2
      go_quiet (fail)
      go_wp2
      go_ret2
      exact ⟨rfl, H.out, Step.drewN _ _⟩
end Go.Proofs.Ytnomnhlfenhjdaa
