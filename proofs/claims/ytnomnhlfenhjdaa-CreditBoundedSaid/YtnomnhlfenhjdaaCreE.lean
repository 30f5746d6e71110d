/- credit: what is refused by the makers, what none answers; what the document's example says. No statement is proved here; nothing is assumed. -/
import Derived.Test.YtnomnhlfenhjdaaCreC
import Derived.Test.YtnomnhlfenhjdaaCreD
import Derived.OwnWalkIn
import Derived.TacticsInMore
import Derived.LoopNIn
import Derived.LoopIn
import Derived.Deep.QuietTactic
import Derived.BigQuiet
import Derived.Maps.OwnIn
import Derived.Deep.RegionHeld3
import Derived.Laws.Bits64
import Derived.Laws.ResultCell
namespace Go.Proofs.Ytnomnhlfenhjdaa
open Go.RowKit Go.Shelf
set_option linter.unusedVariables false
attribute [local go_sem] Oper.semAt_some

theorem made_bad (n : Int) (h : n < 1 ∨ 8192 < n) (w : World) : Calls Try.prog 41 #[.int .i64 n] w fun e w' => e = .returned (.tuple #[.agg #[.int .u64 0, .int .u64 0], .bool false]) ∧ Step [] w w' := by
  by_cases h1 : n < 1
  · have e1 : (n < 1) = True := by simp; omega
    clear h h1
    go_enter Try.func41, Try.ntmps41
    go_wp2
    (try simp only [Exit.inBlock, Exit.then])
    refine bodyPost_ret (v := .tuple #[.agg #[.int .u64 0, .int .u64 0], .bool false]) ?_ rfl ⟨rfl, ?_⟩
    · rw [results_cell_tmp rfl]
      simp [asAddr, Result.andThen, go_sem]
    · exact Step.alloc _ _
  · have e1 : (n < 1) = False := by simp; omega
    have e2 : ((8192 : Int) < n) = True := by simp; omega
    clear h h1
    go_enter Try.func41, Try.ntmps41
    go_wp2
    (try simp only [Exit.inBlock, Exit.then])
    refine bodyPost_ret (v := .tuple #[.agg #[.int .u64 0, .int .u64 0], .bool false]) ?_ rfl ⟨rfl, ?_⟩
    · rw [results_cell_tmp rfl]
      simp [asAddr, Result.andThen, go_sem]
    · exact Step.alloc _ _
theorem newSp_bad (n : Int) (h : n < 1 ∨ 8192 < n) (w : World) : Calls Try.prog 11 #[.int .i64 n] w fun e w' => e = .returned (.tuple #[.pointer none, .int .i64 1]) ∧ Step [] w w' := by
  go_enter Try.func11, Try.ntmps11
  go_wp2_with (go_at_call 41; refine (made_bad n h _).mono ?_; rintro e w1 ⟨rfl, hs⟩; have HS := Lib.hid hs; clear hs)
  go_ret2
  exact ⟨rfl, HS.out.trans (Step.alloc _ _)⟩
theorem newGv_bad (n : Int) (h : n < 1 ∨ 8192 < n) (w : World) : Calls Try.prog 12 #[.int .i64 n] w fun e w' => e = .returned (.tuple #[.pointer none, .int .i64 1]) ∧ Step [] w w' := by
  go_enter Try.func12, Try.ntmps12
  go_wp2_with (go_at_call 41; refine (made_bad n h _).mono ?_; rintro e w1 ⟨rfl, hs⟩; have HS := Lib.hid hs; clear hs)
  go_ret2
  exact ⟨rfl, HS.out.trans (Step.alloc _ _)⟩
theorem may_bad (n : Int) (h : n < 1 ∨ 8192 < n) (w : World) : Calls Try.prog 13 #[.int .i64 n] w fun e w' => e = .returned (.bool false) ∧ w = w' := by
  by_cases h1 : n < 1
  · have e1 : ((1 : Int) ≤ n) = False := by simp; omega
    clear h h1
    go_enter Try.func13, Try.ntmps13
    go_wp2
    go_ret
    exact ⟨rfl, rfl⟩
  · have e1 : ((1 : Int) ≤ n) = True := by simp; omega
    have e2 : (n ≤ (8192 : Int)) = False := by simp; omega
    clear h h1
    go_enter Try.func13, Try.ntmps13
    go_wp2
    go_ret
    exact ⟨rfl, rfl⟩

/-! ### with the answer spelled out -/
theorem spend_is (b m g p p' : Nat) (n E : Int) (hn : n < 9223372036854775808) (hm : 1 ≤ m) (hp : p ≤ g) (hg : g < 4611686018427387904) (hE : amt 8 n (g - p) = E) (hP : paid n p (g - p) = p') (w : World) (h : SpAt w b m g p) :
    Calls Try.prog 15 #[.pointer (some ⟨b, 0, none⟩), .int .i64 n] w fun e w' => e = .returned (.int .i64 E) ∧ SpAt w' b m g p' ∧ Step [b] w w' := by
  subst hE hP; exact spend_any b m g p n hn hm hp hg w h
theorem take_is (b m g t u t' : Nat) (n E : Int) (hn : n < 9223372036854775808) (hm : 1 ≤ m) (hp : t ≤ g) (hg : g < 4611686018427387904) (hE : amt 7 n (g - t) = E) (hP : paid n t (g - t) = t') (w : World) (h : GvAt w b m g t u) :
    Calls Try.prog 19 #[.pointer (some ⟨b, 0, none⟩), .int .i64 n] w fun e w' => e = .returned (.int .i64 E) ∧ GvAt w' b m g t' u ∧ Step [b] w w' := by
  subst hE hP; exact take_any b m g t u n hn hm hp hg w h
theorem use_is (b m g t u u' : Nat) (n E : Int) (hn : n < 9223372036854775808) (hm : 1 ≤ m) (hp : u ≤ t) (hg : t < 4611686018427387904) (hE : amt 1 n (t - u) = E) (hP : paid n u (t - u) = u') (w : World) (h : GvAt w b m g t u) :
    Calls Try.prog 21 #[.pointer (some ⟨b, 0, none⟩), .int .i64 n] w fun e w' => e = .returned (.int .i64 E) ∧ GvAt w' b m g t u' ∧ Step [b] w w' := by
  subst hE hP; exact use_any b m g t u n hn hm hp hg w h
theorem granted_is (b m g p g' E : Nat) (T : Int) (T' : Nat) (hT' : T = (T' : Int)) (hm : 1 ≤ m) (hm2 : m ≤ 8192) (hp : p ≤ g) (hg : g < 4611686018427387904) (hT : T' < 18446744073709551616) (hE : lateE m p T' = E) (hG : lateG m g p T' = g') (w : World) (h : SpAt w b m g p) :
    Calls Try.prog 17 #[.pointer (some ⟨b, 0, none⟩), .int .u64 T] w fun e w' => e = .returned (.int .i64 (E : Nat)) ∧ SpAt w' b m g' p ∧ Step [b] w w' := by
  subst hE hG hT'; exact granted_any b m g p T' hm hm2 hp hg hT w h
theorem grant_is (b m g t u g' N : Nat) (d : Bool) (hm : 1 ≤ m) (hm2 : m ≤ 8192) (hg : g ≤ u + m) (hu : u < 4611686018427387904) (hN : dueN m g u = N) (hd : due m g u = d) (hG : dueG m g u = g') (w : World) (h : GvAt w b m g t u) :
    Calls Try.prog 23 #[.pointer (some ⟨b, 0, none⟩)] w fun e w' => e = .returned (.tuple #[.int .u64 (N : Nat), .bool d]) ∧ GvAt w' b m g' t u ∧ Step [b] w w' := by
  subst hN hd hG; exact grant_any b m g t u hm hm2 hg hu w h

theorem two_of {bs bg : Nat} {W0 W W' : World} (h : Step [] W0 W) (hb : W0.heap.size ≤ bs) (k : Step [bs] W W') : Step [] W0 W' :=
  h.trans' k (fun _ h _ => h) (fun i hi hl => by simp at hi; omega)

set_option maxRecDepth 100000 in
theorem wakes_any (w : World) : Calls Try.prog 14 #[] w fun e w' => e = .returned (.bool true) ∧ Step [] w w' := by
  go_enter Try.func14, Try.ntmps14
  go_wp2_with fail
  refine (newSp_ok 10 (by omega) (by omega) w).mono ?_
  rintro e w1 ⟨bs, rfl, hbs, hsp, hs⟩
  have hlt := heap_lt hsp
  have HB := Lib.hid hbs
  have HS := Lib.hid hs
  have HP := Lib.hid hsp
  clear hbs hs hsp
  go_wp2_with fail
  refine (newGv_ok 10 (by omega) (by omega) w1).mono ?_
  rintro e w2 ⟨bg, rfl, hbg, hgv, hs⟩
  have HBG := Lib.hid (show w.heap.size ≤ bg from Nat.le_trans HS.out.size hbg)
  have HNE := Lib.hid (show bs ≠ bg by omega)
  replace HP := Lib.hid (show SpAt w2 bs 10 10 0 from obj_step HP.out hs (by simp))
  have HG := Lib.hid hgv
  replace HS := Lib.hid (HS.out.trans hs)
  clear hlt hbg hs hgv
  go_wp2_with fail
  refine (spend_is bs 10 10 0 7 7 0 (by omega) (by omega) (by omega) (by omega) (by decide) (by decide) _ HP.out).mono ?_
  rintro e w3 ⟨rfl, hsp, hs⟩
  replace HP := Lib.hid hsp
  replace HG := Lib.hid (show GvAt w3 bg 10 10 0 0 from obj_step HG.out hs (by simp; exact HNE.out.symm))
  replace HS := Lib.hid (two_of (bg := 0) HS.out HB.out hs)
  clear hsp hs
  go_wp2_with fail
  refine (spend_is bs 10 10 7 7 4 8 (by omega) (by omega) (by omega) (by omega) (by decide) (by decide) _ HP.out).mono ?_
  rintro e w4 ⟨rfl, hsp, hs⟩
  replace HP := Lib.hid hsp
  replace HG := Lib.hid (show GvAt w4 bg 10 10 0 0 from obj_step HG.out hs (by simp; exact HNE.out.symm))
  replace HS := Lib.hid (two_of (bg := 0) HS.out HB.out hs)
  clear hsp hs
  go_wp2_with fail
  refine (take_is bg 10 10 0 0 7 7 0 (by omega) (by omega) (by omega) (by omega) (by decide) (by decide) _ HG.out).mono ?_
  rintro e w5 ⟨rfl, hgv, hs⟩
  replace HG := Lib.hid hgv
  replace HP := Lib.hid (show SpAt w5 bs 10 10 7 from obj_step HP.out hs (by simp; exact HNE.out))
  replace HS := Lib.hid (two_of (bg := 0) HS.out HBG.out hs)
  clear hgv hs
  go_wp2_with fail
  refine (use_is bg 10 10 7 0 4 4 0 (by omega) (by omega) (by omega) (by omega) (by decide) (by decide) _ HG.out).mono ?_
  rintro e w6 ⟨rfl, hgv, hs⟩
  replace HG := Lib.hid hgv
  replace HP := Lib.hid (show SpAt w6 bs 10 10 7 from obj_step HP.out hs (by simp; exact HNE.out))
  replace HS := Lib.hid (two_of (bg := 0) HS.out HBG.out hs)
  clear hgv hs
  go_wp2_with fail
  refine (grant_is bg 10 10 7 4 10 0 false (by omega) (by omega) (by omega) (by omega) (by decide) (by decide) (by decide) _ HG.out).mono ?_
  rintro e w7 ⟨rfl, hgv, hs⟩
  replace HG := Lib.hid hgv
  replace HP := Lib.hid (show SpAt w7 bs 10 10 7 from obj_step HP.out hs (by simp; exact HNE.out))
  replace HS := Lib.hid (two_of (bg := 0) HS.out HBG.out hs)
  clear hgv hs
  go_wp2_with fail
  refine (use_is bg 10 10 7 4 5 1 0 (by omega) (by omega) (by omega) (by omega) (by decide) (by decide) _ HG.out).mono ?_
  rintro e w8 ⟨rfl, hgv, hs⟩
  replace HG := Lib.hid hgv
  replace HP := Lib.hid (show SpAt w8 bs 10 10 7 from obj_step HP.out hs (by simp; exact HNE.out))
  replace HS := Lib.hid (two_of (bg := 0) HS.out HBG.out hs)
  clear hgv hs
  go_wp2_with fail
  refine (grant_is bg 10 10 7 5 15 15 true (by omega) (by omega) (by omega) (by omega) (by decide) (by decide) (by decide) _ HG.out).mono ?_
  rintro e w9 ⟨rfl, hgv, hs⟩
  replace HP := Lib.hid (show SpAt w9 bs 10 10 7 from obj_step HP.out hs (by simp; exact HNE.out))
  replace HS := Lib.hid (two_of (bg := 0) HS.out HBG.out hs)
  clear hgv hs HG
  go_wp2_with fail
  refine (granted_is bs 10 10 7 15 0 _ 15 rfl (by omega) (by omega) (by omega) (by omega) (by omega) (by decide) (by decide) _ HP.out).mono ?_
  rintro e wa ⟨rfl, hsp, hs⟩
  replace HP := Lib.hid hsp
  replace HS := Lib.hid (two_of (bg := 0) HS.out HB.out hs)
  clear hsp hs
  go_wp2_with fail
  refine (spend_is bs 10 15 7 15 8 0 (by omega) (by omega) (by omega) (by omega) (by decide) (by decide) _ HP.out).mono ?_
  rintro e wb ⟨rfl, hsp, hs⟩
  replace HS := Lib.hid (two_of (bg := 0) HS.out HB.out hs)
  clear hsp hs
  go_wp2_with fail
  go_ret
  exact ⟨rfl, HS.out⟩
end Go.Proofs.Ytnomnhlfenhjdaa
