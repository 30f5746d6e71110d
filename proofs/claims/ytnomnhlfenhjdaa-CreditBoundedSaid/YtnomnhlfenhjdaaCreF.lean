/- credit: what none answers; the walk of CreditKnown. No statement is proved here; nothing is assumed. -/
import Derived.Test.YtnomnhlfenhjdaaCreE
import Derived.OwnWalkIn
import Derived.TacticsInMore
import Derived.LoopNIn
import Derived.LoopIn
import Derived.Deep.QuietTactic
import Derived.BigQuiet
import Derived.Maps.OwnIn
import Derived.Deep.RegionHeld3
import Derived.Laws.Bits64
import Derived.Laws.ResultCell
namespace Go.Proofs.Ytnomnhlfenhjdaa
open Go.RowKit Go.Shelf
set_option linter.unusedVariables false
attribute [local go_sem] Oper.semAt_some

theorem spend_nil (w : World) : Calls Try.prog 15 #[.pointer none, .int .i64 0] w fun e w' => e = .returned (.int .i64 2) ∧ Step [] w w' := by
  go_enter Try.func15, Try.ntmps15
  go_wp2_with (go_at_call 42; refine (spNone_nil _).mono ?_; rintro e w' ⟨rfl, rfl⟩)
  go_ret
  exact ⟨rfl, Step.refl _ _⟩
theorem granted_zero (b : Nat) (w : World) (h : SpAt w b 0 0 0) : Calls Try.prog 17 #[.pointer (some ⟨b, 0, none⟩), .int .u64 0] w fun e w' => e = .returned (.int .i64 2) ∧ Step [] w w' := by
  go_enter Try.func17, Try.ntmps17
  go_wp2_with (go_at_call 42; refine (spNone_zero b _ h).mono ?_; rintro e w' ⟨rfl, rfl⟩)
  go_ret
  exact ⟨rfl, Step.refl _ _⟩
theorem left_nil (w : World) : Calls Try.prog 25 #[.pointer none] w fun e w' => e = .returned (.int .i64 0) ∧ Step [] w w' := by
  go_enter Try.func25, Try.ntmps25
  go_wp2_with (go_at_call 42; refine (spNone_nil _).mono ?_; rintro e w' ⟨rfl, rfl⟩)
  go_ret
  exact ⟨rfl, Step.refl _ _⟩
theorem take_nil (w : World) : Calls Try.prog 19 #[.pointer none, .int .i64 0] w fun e w' => e = .returned (.int .i64 2) ∧ Step [] w w' := by
  go_enter Try.func19, Try.ntmps19
  go_wp2_with (go_at_call 44; refine (gvNone_nil _).mono ?_; rintro e w' ⟨rfl, rfl⟩)
  go_ret
  exact ⟨rfl, Step.refl _ _⟩
theorem use_zero (b : Nat) (w : World) (h : GvAt w b 0 0 0 0) : Calls Try.prog 21 #[.pointer (some ⟨b, 0, none⟩), .int .i64 0] w fun e w' => e = .returned (.int .i64 2) ∧ Step [] w w' := by
  go_enter Try.func21, Try.ntmps21
  go_wp2_with (go_at_call 44; refine (gvNone_zero b _ h).mono ?_; rintro e w' ⟨rfl, rfl⟩)
  go_ret
  exact ⟨rfl, Step.refl _ _⟩
theorem held_zero (b : Nat) (w : World) (h : GvAt w b 0 0 0 0) : Calls Try.prog 26 #[.pointer (some ⟨b, 0, none⟩)] w fun e w' => e = .returned (.int .i64 0) ∧ Step [] w w' := by
  go_enter Try.func26, Try.ntmps26
  go_wp2_with (go_at_call 44; refine (gvNone_zero b _ h).mono ?_; rintro e w' ⟨rfl, rfl⟩)
  go_ret
  exact ⟨rfl, Step.refl _ _⟩
theorem gvNone_nilq (w : World) : Calls Try.prog 44 #[.pointer none] w fun e w' => e = .returned (.bool true) ∧ w' = w := (gvNone_nil w).mono fun _ _ h => ⟨h.1, h.2.symm⟩
theorem grant_nil (w : World) : Calls Try.prog 23 #[.pointer none] w fun e w' => e = .returned (.tuple #[.int .u64 0, .bool false]) ∧ Step [] w w' := by
  go_enter Try.func23, Try.ntmps23
  go_wp2
  go_quiet ((go_at_call 44; exact Calls.quiet_of_same (gvNone_nilq _)))
  go_wp2
  go_ret2
  exact ⟨rfl, Step.drewN _ _⟩
theorem left_is (b m g p : Nat) (E : Int) (hm : 1 ≤ m) (hp : p ≤ g) (hg : g < 4611686018427387904) (hE : ((g - p : Nat) : Int) = E) (w : World) (h : SpAt w b m g p) :
    Calls Try.prog 25 #[.pointer (some ⟨b, 0, none⟩)] w fun e w' => e = .returned (.int .i64 E) ∧ SpAt w' b m g p ∧ Step [b] w w' := by
  subst hE
  refine (left_any b m g p hm hp hg w h).mono ?_
  rintro e w' ⟨rfl, n, rfl⟩
  exact ⟨rfl, h, Step.drewN _ _⟩
theorem held_is (b m g t u : Nat) (E : Int) (hm : 1 ≤ m) (hp : u ≤ t) (hg : t < 4611686018427387904) (hE : ((t - u : Nat) : Int) = E) (w : World) (h : GvAt w b m g t u) :
    Calls Try.prog 26 #[.pointer (some ⟨b, 0, none⟩)] w fun e w' => e = .returned (.int .i64 E) ∧ GvAt w' b m g t u ∧ Step [b] w w' := by
  subst hE
  refine (held_any b m g t u hm hp hg w h).mono ?_
  rintro e w' ⟨rfl, n, rfl⟩
  exact ⟨rfl, h, Step.drewN _ _⟩

set_option maxRecDepth 100000 in
set_option maxHeartbeats 4000000 in
theorem known_walk (w : World) : Calls Try.prog 6 #[] w fun e w' => e = .returned (.bool true) ∧ Step [] w w' := by
  have i0 : ∀ w, (Instr.index 67 (.agg #[.int .i64 0, .int .i64 (-1), .int .i64 8193]) (.int .i64 0)).run Try.prog w = .ok (.int .i64 0) w := fun _ => by kernel_rfl
  have i1 : ∀ w, (Instr.index 67 (.agg #[.int .i64 0, .int .i64 (-1), .int .i64 8193]) (.int .i64 1)).run Try.prog w = .ok (.int .i64 (-1)) w := fun _ => by kernel_rfl
  have i2 : ∀ w, (Instr.index 67 (.agg #[.int .i64 0, .int .i64 (-1), .int .i64 8193]) (.int .i64 2)).run Try.prog w = .ok (.int .i64 8193) w := fun _ => by kernel_rfl
  go_enter Try.func6, Try.ntmps6
  go_wp2_with fail
  have hz0 : SpAt ((w.alloc (.cells #[.int .u64 0, .int .u64 0, .int .u64 0] 64)).alloc (.cells #[.int .u64 0, .int .u64 0, .int .u64 0, .int .u64 0] 66)) w.heap.size 0 0 0 := by unfold SpAt spObj; simp only [heap_alloc_get, World.size_alloc]; rw [if_neg (by omega), if_pos trivial]; rfl
  have hv0 : GvAt ((w.alloc (.cells #[.int .u64 0, .int .u64 0, .int .u64 0] 64)).alloc (.cells #[.int .u64 0, .int .u64 0, .int .u64 0, .int .u64 0] 66)) (w.heap.size + 1) 0 0 0 0 := by unfold GvAt gvObj; simp only [heap_alloc_get, World.size_alloc]; rw [if_pos trivial]; rfl
  have hs0 : Step [] w ((w.alloc (.cells #[.int .u64 0, .int .u64 0, .int .u64 0] 64)).alloc (.cells #[.int .u64 0, .int .u64 0, .int .u64 0, .int .u64 0] 66)) := (Step.alloc _ _).trans (Step.alloc _ _)
  generalize (w.alloc (.cells #[.int .u64 0, .int .u64 0, .int .u64 0] 64)).alloc (.cells #[.int .u64 0, .int .u64 0, .int .u64 0, .int .u64 0] 66) = w0 at *
  obtain ⟨bn, hbn⟩ : ∃ bn, w.heap.size = bn := ⟨_, rfl⟩
  obtain ⟨bv, hbv⟩ : ∃ bv, w.heap.size + 1 = bv := ⟨_, rfl⟩
  rw [hbn] at hz0
  rw [hbv] at hv0
  simp only [hbv]
  simp only [hbn]
  have H_bn := Lib.hid hz0
  have H_bv := Lib.hid hv0
  have HS := Lib.hid hs0
  have HBN := Lib.hid hbn
  have HBV := Lib.hid hbv
  clear hz0 hv0 hs0 hbn hbv
  go_wp2_with fail
  refine (grant_nil _).mono ?_
  rintro e wx1 ⟨rfl, hs⟩
  replace H_bn := Lib.hid (show SpAt wx1 bn 0 0 0 from obj_step H_bn.out hs (by simp))
  replace H_bv := Lib.hid (show GvAt wx1 bv 0 0 0 0 from obj_step H_bv.out hs (by simp))
  replace HS := Lib.hid (HS.out.trans hs)
  clear hs
  go_wp2_with fail
  refine (spend_nil _).mono ?_
  rintro e wx2 ⟨rfl, hs⟩
  replace H_bn := Lib.hid (show SpAt wx2 bn 0 0 0 from obj_step H_bn.out hs (by simp))
  replace H_bv := Lib.hid (show GvAt wx2 bv 0 0 0 0 from obj_step H_bv.out hs (by simp))
  replace HS := Lib.hid (HS.out.trans hs)
  clear hs
  go_wp2_with fail
  refine (granted_zero bn _ H_bn.out).mono ?_
  rintro e wx3 ⟨rfl, hs⟩
  replace H_bn := Lib.hid (show SpAt wx3 bn 0 0 0 from obj_step H_bn.out hs (by simp))
  replace H_bv := Lib.hid (show GvAt wx3 bv 0 0 0 0 from obj_step H_bv.out hs (by simp))
  replace HS := Lib.hid (HS.out.trans hs)
  clear hs
  go_wp2_with fail
  refine (left_nil _).mono ?_
  rintro e wx4 ⟨rfl, hs⟩
  replace H_bn := Lib.hid (show SpAt wx4 bn 0 0 0 from obj_step H_bn.out hs (by simp))
  replace H_bv := Lib.hid (show GvAt wx4 bv 0 0 0 0 from obj_step H_bv.out hs (by simp))
  replace HS := Lib.hid (HS.out.trans hs)
  clear hs
  go_wp2_with fail
  refine (take_nil _).mono ?_
  rintro e wx5 ⟨rfl, hs⟩
  replace H_bn := Lib.hid (show SpAt wx5 bn 0 0 0 from obj_step H_bn.out hs (by simp))
  replace H_bv := Lib.hid (show GvAt wx5 bv 0 0 0 0 from obj_step H_bv.out hs (by simp))
  replace HS := Lib.hid (HS.out.trans hs)
  clear hs
  go_wp2_with fail
  refine (use_zero bv _ H_bv.out).mono ?_
  rintro e wx6 ⟨rfl, hs⟩
  replace H_bn := Lib.hid (show SpAt wx6 bn 0 0 0 from obj_step H_bn.out hs (by simp))
  replace H_bv := Lib.hid (show GvAt wx6 bv 0 0 0 0 from obj_step H_bv.out hs (by simp))
  replace HS := Lib.hid (HS.out.trans hs)
  clear hs
  go_wp2_with fail
  refine (held_zero bv _ H_bv.out).mono ?_
  rintro e wx7 ⟨rfl, hs⟩
  replace H_bn := Lib.hid (show SpAt wx7 bn 0 0 0 from obj_step H_bn.out hs (by simp))
  replace H_bv := Lib.hid (show GvAt wx7 bv 0 0 0 0 from obj_step H_bv.out hs (by simp))
  replace HS := Lib.hid (HS.out.trans hs)
  clear hs
  clear H_bn
  clear H_bv
  go_wp2_with fail
  refine wp_loop_rounds 4 ?_
  rw [rounds_succ]
  go_wp2_with fail
  refine (newSp_bad 0 (by omega) _).mono ?_
  rintro e wx8 ⟨rfl, hs⟩
  replace HS := Lib.hid (HS.out.trans hs)
  clear hs
  go_wp2_with fail
  refine (newGv_bad 0 (by omega) _).mono ?_
  rintro e wx9 ⟨rfl, hs⟩
  replace HS := Lib.hid (HS.out.trans hs)
  clear hs
  go_wp2_with fail
  rw [rounds_succ]
  go_wp2_with fail
  refine (newSp_bad (-1) (by omega) _).mono ?_
  rintro e wx10 ⟨rfl, hs⟩
  replace HS := Lib.hid (HS.out.trans hs)
  clear hs
  go_wp2_with fail
  refine (newGv_bad (-1) (by omega) _).mono ?_
  rintro e wx11 ⟨rfl, hs⟩
  replace HS := Lib.hid (HS.out.trans hs)
  clear hs
  go_wp2_with fail
  rw [rounds_succ]
  go_wp2_with fail
  refine (newSp_bad 8193 (by omega) _).mono ?_
  rintro e wx12 ⟨rfl, hs⟩
  replace HS := Lib.hid (HS.out.trans hs)
  clear hs
  go_wp2_with fail
  refine (newGv_bad 8193 (by omega) _).mono ?_
  rintro e wx13 ⟨rfl, hs⟩
  replace HS := Lib.hid (HS.out.trans hs)
  clear hs
  go_wp2_with fail
  rw [rounds_succ]
  go_wp2_with fail
  refine (newSp_ok 1 (by omega) (by omega) _).mono ?_
  rintro e wx14 ⟨bo, rfl, hb, h, hs⟩
  have HB_bo := Lib.hid (show w.heap.size ≤ bo from Nat.le_trans HS.out.size hb)
  have H_bo := Lib.hid h
  replace HS := Lib.hid (HS.out.trans hs)
  clear h hb hs
  go_wp2_with fail
  refine (newGv_ok 1 (by omega) (by omega) _).mono ?_
  rintro e wx15 ⟨bg, rfl, hb, h, hs⟩
  have HN_bo_bg := Lib.hid (show bo ≠ bg by have := heap_lt H_bo.out; omega)
  have HB_bg := Lib.hid (show w.heap.size ≤ bg from Nat.le_trans HS.out.size hb)
  replace H_bo := Lib.hid (show SpAt wx15 bo 1 1 0 from obj_step H_bo.out hs (by simp))
  have H_bg := Lib.hid h
  replace HS := Lib.hid (HS.out.trans hs)
  clear h hb hs
  go_wp2_with fail
  refine (spend_is bo 1 1 0 0 0 0 (by omega) (by omega) (by omega) (by omega) (by decide) (by decide) _ H_bo.out).mono ?_
  rintro e wx16 ⟨rfl, h, hs⟩
  replace H_bo := Lib.hid h
  replace H_bg := Lib.hid (show GvAt wx16 bg 1 1 0 0 from obj_step H_bg.out hs (by simp; exact HN_bo_bg.out.symm))
  replace HS := Lib.hid (two_of (bg := 0) HS.out HB_bo.out hs)
  clear h hs
  go_wp2_with fail
  refine (spend_is bo 1 1 0 1 1 0 (by omega) (by omega) (by omega) (by omega) (by decide) (by decide) _ H_bo.out).mono ?_
  rintro e wx17 ⟨rfl, h, hs⟩
  replace H_bo := Lib.hid h
  replace H_bg := Lib.hid (show GvAt wx17 bg 1 1 0 0 from obj_step H_bg.out hs (by simp; exact HN_bo_bg.out.symm))
  replace HS := Lib.hid (two_of (bg := 0) HS.out HB_bo.out hs)
  clear h hs
  go_wp2_with fail
  refine (spend_is bo 1 1 1 1 1 8 (by omega) (by omega) (by omega) (by omega) (by decide) (by decide) _ H_bo.out).mono ?_
  rintro e wx18 ⟨rfl, h, hs⟩
  replace H_bo := Lib.hid h
  replace H_bg := Lib.hid (show GvAt wx18 bg 1 1 0 0 from obj_step H_bg.out hs (by simp; exact HN_bo_bg.out.symm))
  replace HS := Lib.hid (two_of (bg := 0) HS.out HB_bo.out hs)
  clear h hs
  go_wp2_with fail
  refine (take_is bg 1 1 0 0 1 1 0 (by omega) (by omega) (by omega) (by omega) (by decide) (by decide) _ H_bg.out).mono ?_
  rintro e wx19 ⟨rfl, h, hs⟩
  replace H_bg := Lib.hid h
  replace H_bo := Lib.hid (show SpAt wx19 bo 1 1 1 from obj_step H_bo.out hs (by simp; exact HN_bo_bg.out))
  replace HS := Lib.hid (two_of (bg := 0) HS.out HB_bg.out hs)
  clear h hs
  go_wp2_with fail
  refine (take_is bg 1 1 1 0 1 1 7 (by omega) (by omega) (by omega) (by omega) (by decide) (by decide) _ H_bg.out).mono ?_
  rintro e wx20 ⟨rfl, h, hs⟩
  replace H_bg := Lib.hid h
  replace H_bo := Lib.hid (show SpAt wx20 bo 1 1 1 from obj_step H_bo.out hs (by simp; exact HN_bo_bg.out))
  replace HS := Lib.hid (two_of (bg := 0) HS.out HB_bg.out hs)
  clear h hs
  go_wp2_with fail
  refine (grant_is bg 1 1 1 0 1 0 false (by omega) (by omega) (by omega) (by omega) (by decide) (by decide) (by decide) _ H_bg.out).mono ?_
  rintro e wx21 ⟨rfl, h, hs⟩
  replace H_bg := Lib.hid h
  replace H_bo := Lib.hid (show SpAt wx21 bo 1 1 1 from obj_step H_bo.out hs (by simp; exact HN_bo_bg.out))
  replace HS := Lib.hid (two_of (bg := 0) HS.out HB_bg.out hs)
  clear h hs
  go_wp2_with fail
  refine (use_is bg 1 1 1 0 1 1 0 (by omega) (by omega) (by omega) (by omega) (by decide) (by decide) _ H_bg.out).mono ?_
  rintro e wx22 ⟨rfl, h, hs⟩
  replace H_bg := Lib.hid h
  replace H_bo := Lib.hid (show SpAt wx22 bo 1 1 1 from obj_step H_bo.out hs (by simp; exact HN_bo_bg.out))
  replace HS := Lib.hid (two_of (bg := 0) HS.out HB_bg.out hs)
  clear h hs
  go_wp2_with fail
  refine (grant_is bg 1 1 1 1 2 2 true (by omega) (by omega) (by omega) (by omega) (by decide) (by decide) (by decide) _ H_bg.out).mono ?_
  rintro e wx23 ⟨rfl, h, hs⟩
  replace H_bg := Lib.hid h
  replace H_bo := Lib.hid (show SpAt wx23 bo 1 1 1 from obj_step H_bo.out hs (by simp; exact HN_bo_bg.out))
  replace HS := Lib.hid (two_of (bg := 0) HS.out HB_bg.out hs)
  clear h hs
  go_wp2_with fail
  refine (grant_is bg 1 2 1 1 2 0 false (by omega) (by omega) (by omega) (by omega) (by decide) (by decide) (by decide) _ H_bg.out).mono ?_
  rintro e wx24 ⟨rfl, h, hs⟩
  replace H_bg := Lib.hid h
  replace H_bo := Lib.hid (show SpAt wx24 bo 1 1 1 from obj_step H_bo.out hs (by simp; exact HN_bo_bg.out))
  replace HS := Lib.hid (two_of (bg := 0) HS.out HB_bg.out hs)
  clear h hs
  go_wp2_with fail
  refine (newSp_ok 8192 (by omega) (by omega) _).mono ?_
  rintro e wx25 ⟨bw, rfl, hb, h, hs⟩
  have HN_bo_bw := Lib.hid (show bo ≠ bw by have := heap_lt H_bo.out; omega)
  have HN_bg_bw := Lib.hid (show bg ≠ bw by have := heap_lt H_bg.out; omega)
  have HB_bw := Lib.hid (show w.heap.size ≤ bw from Nat.le_trans HS.out.size hb)
  replace H_bo := Lib.hid (show SpAt wx25 bo 1 1 1 from obj_step H_bo.out hs (by simp))
  replace H_bg := Lib.hid (show GvAt wx25 bg 1 2 1 1 from obj_step H_bg.out hs (by simp))
  have H_bw := Lib.hid h
  replace HS := Lib.hid (HS.out.trans hs)
  clear h hb hs
  go_wp2_with fail
  refine (granted_is bo 1 1 1 1 24 _ 3 rfl (by omega) (by omega) (by omega) (by omega) (by omega) (by decide) (by decide) _ H_bo.out).mono ?_
  rintro e wx26 ⟨rfl, h, hs⟩
  replace H_bo := Lib.hid h
  replace H_bg := Lib.hid (show GvAt wx26 bg 1 2 1 1 from obj_step H_bg.out hs (by simp; exact HN_bo_bg.out.symm))
  replace H_bw := Lib.hid (show SpAt wx26 bw 8192 8192 0 from obj_step H_bw.out hs (by simp; exact HN_bo_bw.out.symm))
  replace HS := Lib.hid (two_of (bg := 0) HS.out HB_bo.out hs)
  clear h hs
  go_wp2_with fail
  refine (granted_is bo 1 1 1 2 0 _ 2 rfl (by omega) (by omega) (by omega) (by omega) (by omega) (by decide) (by decide) _ H_bo.out).mono ?_
  rintro e wx27 ⟨rfl, h, hs⟩
  replace H_bo := Lib.hid h
  replace H_bg := Lib.hid (show GvAt wx27 bg 1 2 1 1 from obj_step H_bg.out hs (by simp; exact HN_bo_bg.out.symm))
  replace H_bw := Lib.hid (show SpAt wx27 bw 8192 8192 0 from obj_step H_bw.out hs (by simp; exact HN_bo_bw.out.symm))
  replace HS := Lib.hid (two_of (bg := 0) HS.out HB_bo.out hs)
  clear h hs
  go_wp2_with fail
  refine (left_is bo 1 2 1 1 (by omega) (by omega) (by omega) (by omega) _ H_bo.out).mono ?_
  rintro e wx28 ⟨rfl, h, hs⟩
  replace H_bo := Lib.hid h
  replace H_bg := Lib.hid (show GvAt wx28 bg 1 2 1 1 from obj_step H_bg.out hs (by simp; exact HN_bo_bg.out.symm))
  replace H_bw := Lib.hid (show SpAt wx28 bw 8192 8192 0 from obj_step H_bw.out hs (by simp; exact HN_bo_bw.out.symm))
  replace HS := Lib.hid (two_of (bg := 0) HS.out HB_bo.out hs)
  clear h hs
  go_wp2_with fail
  refine (left_is bw 8192 8192 0 8192 (by omega) (by omega) (by omega) (by omega) _ H_bw.out).mono ?_
  rintro e wx29 ⟨rfl, h, hs⟩
  replace H_bw := Lib.hid h
  replace H_bo := Lib.hid (show SpAt wx29 bo 1 2 1 from obj_step H_bo.out hs (by simp; exact HN_bo_bw.out))
  replace H_bg := Lib.hid (show GvAt wx29 bg 1 2 1 1 from obj_step H_bg.out hs (by simp; exact HN_bg_bw.out))
  replace HS := Lib.hid (two_of (bg := 0) HS.out HB_bw.out hs)
  clear h hs
  go_wp2_with fail
  refine (granted_is bw 8192 8192 0 8192 24 _ 9223372036854775808 rfl (by omega) (by omega) (by omega) (by omega) (by omega) (by decide) (by decide) _ H_bw.out).mono ?_
  rintro e wx30 ⟨rfl, h, hs⟩
  replace H_bw := Lib.hid h
  replace H_bo := Lib.hid (show SpAt wx30 bo 1 2 1 from obj_step H_bo.out hs (by simp; exact HN_bo_bw.out))
  replace H_bg := Lib.hid (show GvAt wx30 bg 1 2 1 1 from obj_step H_bg.out hs (by simp; exact HN_bg_bw.out))
  replace HS := Lib.hid (two_of (bg := 0) HS.out HB_bw.out hs)
  clear h hs
  go_wp2_with fail
  refine (wakes_any _).mono ?_
  rintro e wx31 ⟨rfl, hs⟩
  replace H_bo := Lib.hid (show SpAt wx31 bo 1 2 1 from obj_step H_bo.out hs (by simp))
  replace H_bg := Lib.hid (show GvAt wx31 bg 1 2 1 1 from obj_step H_bg.out hs (by simp))
  replace H_bw := Lib.hid (show SpAt wx31 bw 8192 8192 0 from obj_step H_bw.out hs (by simp))
  replace HS := Lib.hid (HS.out.trans hs)
  clear hs
  go_wp2_with fail
  go_ret
  exact ⟨rfl, HS.out⟩
end Go.Proofs.Ytnomnhlfenhjdaa
