/- net: what is refused; All of no way. No statement is proved here; nothing is assumed. -/
import Derived.Test.YtnomnhlfenhjdaaNetQ
import Derived.OwnWalkIn
import Derived.TacticsInMore
import Derived.LoopNIn
import Derived.LoopIn
import Derived.Deep.QuietTactic
import Derived.BigQuiet
import Derived.Maps.OwnIn
namespace Go.Proofs.Ytnomnhlfenhjdaa
open Go.RowKit Go.Shelf
set_option linter.unusedVariables false
set_option linter.unusedSimpArgs false
attribute [local go_sem] Oper.semAt_some

/-- The place is refused with E. -/
abbrev NoAt (p : Value) (way i E : Int) (w : World) : Prop := ∃ x : Option Addr, Calls Try.prog 48 #[p, .int .i64 way, .int .i64 i] w fun e w' => e = .returned (.tuple #[.pointer x, .int .i64 E]) ∧ w = w'
abbrev NoWay (p : Value) (way E : Int) (w : World) : Prop := Calls Try.prog 45 #[p, .int .i64 way] w fun e w' => e = .returned (.tuple #[.pointer none, .int .i64 E]) ∧ w = w'

theorem deliver_no (p : Option Addr) (way i E : Int) (hE : E = 1 ∨ E = 2 ∨ E = 6) (w : World) (h : NoAt (.pointer p) way i E w) :
    Calls Try.prog 33 #[.pointer p, .int .i64 way, .int .i64 i] w fun e w' => e = .returned (.tuple #[.slice none 0 0, .int .i64 E]) ∧ w = w' := by
  obtain ⟨x, h⟩ := h
  have H := Lib.hid h
  clear h
  rcases hE with rfl | rfl | rfl
  all_goals
    go_enter Try.func33, Try.ntmps33
    go_wp2_with (go_at_call 48; refine (H.out).mono ?_; rintro e w' ⟨rfl, rfl⟩)
    go_ret2
    exact ⟨rfl, rfl⟩
theorem double_no (p : Option Addr) (way i E : Int) (hE : E = 1 ∨ E = 2 ∨ E = 6) (w : World) (h : NoAt (.pointer p) way i E w) :
    Calls Try.prog 32 #[.pointer p, .int .i64 way, .int .i64 i] w fun e w' => e = .returned (.int .i64 E) ∧ w = w' := by
  obtain ⟨x, h⟩ := h
  have H := Lib.hid h
  clear h
  rcases hE with rfl | rfl | rfl
  all_goals
    go_enter Try.func32, Try.ntmps32
    go_wp2_with (go_at_call 48; refine (H.out).mono ?_; rintro e w' ⟨rfl, rfl⟩)
    go_ret
    exact ⟨rfl, rfl⟩
theorem flip_no (p : Option Addr) (way i b E : Int) (hE : E = 1 ∨ E = 2 ∨ E = 6) (w : World) (h : NoAt (.pointer p) way i E w) :
    Calls Try.prog 30 #[.pointer p, .int .i64 way, .int .i64 i, .int .i64 b] w fun e w' => e = .returned (.int .i64 E) ∧ w = w' := by
  obtain ⟨x, h⟩ := h
  have H := Lib.hid h
  clear h
  rcases hE with rfl | rfl | rfl
  all_goals
    go_enter Try.func30, Try.ntmps30
    go_wp2_with (go_at_call 48; refine (H.out).mono ?_; rintro e w' ⟨rfl, rfl⟩)
    go_ret
    exact ⟨rfl, rfl⟩
theorem send_no (p q : Option Addr) (n c : Nat) (way E : Int) (hE : E = 1 ∨ E = 2) (w : World) (h : NoWay (.pointer p) way E w) :
    Calls Try.prog 29 #[.pointer p, .int .i64 way, .slice q n c] w fun e w' => e = .returned (.tuple #[.bool false, .int .i64 E]) ∧ w = w' := by
  have H := Lib.hid h
  clear h
  rcases hE with rfl | rfl
  all_goals
    go_enter Try.func29, Try.ntmps29
    go_wp2_with (go_at_call 45; refine (H.out).mono ?_; rintro e w' ⟨rfl, rfl⟩)
    go_ret2
    exact ⟨rfl, rfl⟩
theorem send_long (bn way : Nat) (r0 r1 : Value) (hw : way < 2) (q : Option Addr) (n c : Nat) (hn : 600 < n) (w : World) (h : NetObj w bn r0 r1) :
    Calls Try.prog 29 #[.pointer (some ⟨bn, 0, none⟩), .int .i64 (way : Int), .slice q n c] w fun e w' => e = .returned (.tuple #[.bool false, .int .i64 3]) ∧ w = w' := by
  have H := Lib.hid h
  have HW := Lib.hid hw
  have t1 : ((600 : Int) < (n : Int)) = True := by simp; omega
  clear h hw hn
  go_enter Try.func29, Try.ntmps29
  go_wp2_with (go_at_call 45; refine (way_ok bn way r0 r1 HW.out _ H.out).mono ?_; rintro e w' ⟨rfl, rfl⟩)
  go_ret2
  exact ⟨rfl, rfl⟩
theorem double_full (B bn way i : Nat) (hw : way < 2) (r : Nat → Value) (e : Nat → List Sl) (d : Nat → List (List Value)) (hi : i < (e way).length) (hl : 64 ≤ (e way).length) (w : World) (h : NetAt B w bn r e d) :
    Calls Try.prog 32 #[.pointer (some ⟨bn, 0, none⟩), .int .i64 (way : Int), .int .i64 (i : Int)] w fun e w' => e = .returned (.int .i64 7) ∧ w = w' := by
  obtain ⟨q1, c1, hr, hc1, hm1⟩ := (h.xr way hw).form
  rw [List.length_map] at hr hc1
  obtain ⟨hcell, hfr⟩ := h.cell hw
  rw [hr] at hcell
  obtain ⟨L, hL⟩ : ∃ L, L = (e way).length := ⟨_, rfl⟩
  rw [← hL] at hcell hr hl hi
  have H := Lib.hid h
  have HW := Lib.hid hw
  have HRO := Lib.hid ((h.rowOf hw).trans hr)
  have HI := Lib.hid hi
  have t2 : ((64 : Int) ≤ (L : Int)) = True := by simp; omega
  clear h hw hr hi hl hc1 hm1 hL hfr
  go_enter Try.func32, Try.ntmps32
  go_wp2_with (go_at_call 48; refine (at_ok bn way i (r 0) (r 1) _ L c1 HW.out HRO.out HI.out _ H.out.xo).mono ?_; rintro e w' ⟨rfl, rfl⟩)
  go_ret
  exact ⟨rfl, rfl⟩

/-- Of a way that is none, All hands out nothing. -/
theorem netAll_no (p : Option Addr) (way E : Int) (hE : E = 1 ∨ E = 2) (b1 b2 : Nat) (f : Value) (w : World) (k1 : w.cell? ⟨b1, 0, none⟩ = some (.pointer p)) (k2 : w.cell? ⟨b2, 0, none⟩ = some (.int .i64 way)) (h : NoWay (.pointer p) way E w) (l : Nat) :
    Calls Try.prog 50 (#[.func (.yield l) #[] #[]] ++ #[.pointer (some ⟨b1, 0, none⟩), .pointer (some ⟨b2, 0, none⟩)]) w (fun e1 w' => (∃ v, e1 = .returned v) ∧ w = w') := by
  have H := Lib.hid h
  clear h
  rcases hE with rfl | rfl
  all_goals
    refine (callsIn_wide (n := 0)).1 (callsIn_of_wp Try.func50 rfl trivial ?_ rfl)
    simp only [Try.ntmps50, List.size_toArray, List.length_cons, List.length_nil, Nat.reduceAdd, Nat.reduceSub, Array.replicate_succ, Array.replicate_zero, List.push_toArray, List.append_toArray, List.nil_append, List.cons_append]
    gi_wp2_with fail
    refine (inW H.out).mono ?_
    rintro e1 w' ⟨rfl, rfl⟩
    gi_wp2_with fail
    refine bodyPost_ret (results_none rfl _ _ _) rfl ?_
    exact ⟨⟨_, rfl⟩, rfl⟩
end Go.Proofs.Ytnomnhlfenhjdaa
