/- The reference's net: Deliver, Double, Flip. No statement is proved here; nothing is assumed. -/
import Derived.Test.YtnomnhlfenhjdaaNetZ
import Derived.OwnWalkIn
import Derived.TacticsInMore
import Derived.LoopNIn
import Derived.LoopIn
import Derived.Deep.QuietTactic
import Derived.BigQuiet
import Derived.Maps.OwnIn
namespace Go.Proofs.Ytnomnhlfenhjdaa
open Go.RowKit Go.Shelf
set_option linter.unusedVariables false
set_option linter.unusedSimpArgs false
attribute [local go_sem] Oper.semAt_some

/-- The place is refused with E. -/
abbrev NoStand (p : Value) (way i E : Int) (w : World) : Prop := Calls Try.prog 60 #[p, .int .i64 way, .int .i64 i] w fun e w' => e = .returned (.int .i64 E) ∧ w = w'
theorem rdeliver_no (p : Option Addr) (way i E : Int) (hE : E = 1 ∨ E = 6) (w : World) (h : NoStand (.pointer p) way i E w) :
    Calls Try.prog 54 #[.pointer p, .int .i64 way, .int .i64 i] w fun e w' => e = .returned (.tuple #[.slice none 0 0, .int .i64 E]) ∧ w = w' := by
  have H := Lib.hid h
  clear h
  rcases hE with rfl | rfl
  all_goals
    go_enter Try.func54, Try.ntmps54
    go_wp2_with (go_at_call 60; refine (H.out).mono ?_; rintro e w' ⟨rfl, rfl⟩)
    go_ret2
    exact ⟨rfl, rfl⟩
theorem rdouble_no (p : Option Addr) (way i E : Int) (hE : E = 1 ∨ E = 6) (w : World) (h : NoStand (.pointer p) way i E w) :
    Calls Try.prog 55 #[.pointer p, .int .i64 way, .int .i64 i] w fun e w' => e = .returned (.int .i64 E) ∧ w = w' := by
  have H := Lib.hid h
  clear h
  rcases hE with rfl | rfl
  all_goals
    go_enter Try.func55, Try.ntmps55
    go_wp2_with (go_at_call 60; refine (H.out).mono ?_; rintro e w' ⟨rfl, rfl⟩)
    go_ret
    exact ⟨rfl, rfl⟩
theorem rflip_no (p : Option Addr) (way i b E : Int) (hE : E = 1 ∨ E = 6) (w : World) (h : NoStand (.pointer p) way i E w) :
    Calls Try.prog 56 #[.pointer p, .int .i64 way, .int .i64 i, .int .i64 b] w fun e w' => e = .returned (.int .i64 E) ∧ w = w' := by
  have H := Lib.hid h
  clear h
  rcases hE with rfl | rfl
  all_goals
    go_enter Try.func56, Try.ntmps56
    go_wp2_with (go_at_call 60; refine (H.out).mono ?_; rintro e w' ⟨rfl, rfl⟩)
    go_ret
    exact ⟨rfl, rfl⟩

set_option maxRecDepth 100000 in
set_option maxHeartbeats 1000000 in
theorem rdeliver_ok (B rb way i : Nat) (hw : way < 2) (r : Nat → Value) (e : Nat → List Sl) (d : Nat → List (List Value)) (hi : i < (e way).length) (hl : (e way).length < 1000) (w : World) (h : RefAt B w rb r e d) :
    Calls Try.prog 54 #[.pointer (some ⟨rb, 0, none⟩), .int .i64 (way : Int), .int .i64 (i : Int)] w fun e_ w' => ∃ s c, (d way)[i]? = some c ∧ e_ = .returned (.tuple #[encS s, .int .i64 0]) ∧ OwnAt B w' 5 (encS s) c ∧
      ∃ r1 e1, RefAt B w' rb r1 e1 (upd d way ((d way).eraseIdx i)) ∧ StepB B w w' ∧ Leaves rb r e r1 e1 w w' ∧ (∀ g, (encS s).ownBlock = some g → g < w.heap.size ∧ ¬ Shuns rb r e g) := by
  obtain ⟨s, hs⟩ : ∃ s, (e way)[i]? = some s := ⟨_, List.getElem?_eq_getElem hi⟩
  obtain ⟨c, hc, ho⟩ := h.elem hw hs
  obtain ⟨g, off, c1, hr, hc1, hm1, hel⟩ := (h.xr way hw).at (j := i) (x := encS s) (by simp [hs])
  rw [List.length_map] at hr hc1
  obtain ⟨L, hL⟩ : ∃ L, L = (e way).length := ⟨_, rfl⟩
  have hwo := without_any B (r way) (e way) i hi hl w (h.xr way hw)
  rw [← hL] at hr hc1
  rw [hr] at hwo
  have hrow := row_ok rb way (r 0) (r 1) hw w h.xo
  rw [h.rowOf hw, hr] at hrow
  have HRow := Lib.hid hrow
  have HWO := Lib.hid hwo
  have HST := Lib.hid (stands_ok rb way i (r 0) (r 1) _ L c1 hw ((h.rowOf hw).trans hr) (by omega) w h.xo)
  have H := Lib.hid h
  have HW := Lib.hid hw
  have HI := Lib.hid hi
  have HSS := Lib.hid (And.intro hs (And.intro hc ho))
  have hiL : (i : Int) < (L : Int) := by omega
  have hlc : (L : Int) ≤ (c1 : Int) := by omega
  have hcm : (c1 : Int) ≤ 9223372036854775807 := by unfold maxLen at hm1; omega
  obtain ⟨sa, sn, sc⟩ := s
  have hel : w.cell? ⟨g, off + i, none⟩ = some (.slice sa sn sc) := hel
  clear h hw hr hi hl hc1 hm1 hL hs hc ho hrow hwo
  go_enter Try.func54, Try.ntmps54
  go_wp2_with (first | (go_at_call 60; refine HST.out.mono ?_; rintro e w' ⟨rfl, rfl⟩) | (go_at_call 39; refine HRow.out.mono ?_; rintro e w' ⟨rfl, rfl⟩))
  refine HWO.out.mono ?_
  rintro e0 w0 ⟨v0, rfl, ho0, hs0⟩
  obtain ⟨qa, na, ca, rfl⟩ := ho0.slice'
  have hp := H.out.renew HW.out i HI.out [] [] rfl (by simp) hs0 (v' := .slice qa na ca) (by rw [List.append_nil]; exact ho0) (fun j s c h1 h2 => by simp at h1)
  rw [List.append_nil, List.append_nil] at hp
  have HP := Lib.hid hp
  have hb2 : OwnAt B (w0.setCell ⟨rb, way, none⟩ (.slice qa na ca)) 5 (encS (sa, sn, sc)) c := by
    have h1 := HSS.out.2.2.same hs0
    have hset : Step [rb] w0 (w0.setCell ⟨rb, way, none⟩ (.slice qa na ca)) := Step.setObj hp.2.2.2 rfl (by simp) _ _
    exact h1.step hset (fun k hk => by
      obtain ⟨_, _, cc1, hcc1⟩ := h1.block hk
      simp
      exact ne_types hcc1 hp.2.2.2 (by decide))
  have HB2 := Lib.hid hb2
  clear hp ho0 hs0 hb2
  go_wp2_with fail
  refine (set_ok rb way (r 0) (r 1) HW.out qa na ca w0 HP.out.2.2.2).mono ?_
  rintro e5 w5 ⟨⟨v5, rfl⟩, rfl⟩
  go_wp2
  go_ret2
  exact ⟨_, _, HSS.out.2.1, rfl, HB2.out, _, _, HP.out.1, HP.out.2.1, HP.out.2.2.1, fun k hk => ⟨(HSS.out.2.2.block hk).2.1, fun hsh => hsh.2.2 way HW.out i _ HSS.out.1 hk⟩⟩

set_option maxRecDepth 100000 in
set_option maxHeartbeats 1000000 in
theorem rdouble_ok (B rb way i : Nat) (hw : way < 2) (r : Nat → Value) (e : Nat → List Sl) (d : Nat → List (List Value)) (c : List Value) (hcd : (d way)[i]? = some c) (h1c : ∀ u ∈ c, u.oneCell' = true) (hcl : c.length < 1000000) (hl : (e way).length < 64) (w : World) (h : RefAt B w rb r e d) :
    Calls Try.prog 55 #[.pointer (some ⟨rb, 0, none⟩), .int .i64 (way : Int), .int .i64 (i : Int)] w fun e_ w' => e_ = .returned (.int .i64 0) ∧ ∃ r' s, RefAt B w' rb (upd r way r') (upd e way (e way ++ [s])) (upd d way (d way ++ [c])) ∧ StepB B w w' ∧ Leaves rb r e (upd r way r') (upd e way (e way ++ [s])) w w' := by
  obtain ⟨i0, hi0, hz0, hz1, hz2⟩ := info_parts info68
  have hi : i < (e way).length := by rw [h.xl way hw]; exact (List.getElem?_eq_some_iff.1 hcd).1
  obtain ⟨s, hs⟩ : ∃ s, (e way)[i]? = some s := ⟨_, List.getElem?_eq_getElem hi⟩
  obtain ⟨c', hc, ho⟩ := h.elem hw hs
  obtain rfl : c' = c := by rw [hcd] at hc; exact (Option.some.inj hc).symm
  obtain ⟨g, off, c1, hr, hc1, hm1, hel⟩ := (h.xr way hw).at (j := i) (x := encS s) (by simp [hs])
  rw [List.length_map] at hr hc1
  obtain ⟨L, hL⟩ : ∃ L, L = (e way).length := ⟨_, rfl⟩
  rw [← hL] at hr hc1
  have hrow := row_ok rb way (r 0) (r 1) hw w h.xo
  rw [h.rowOf hw, hr] at hrow
  have HRow := Lib.hid hrow
  have HST := Lib.hid (stands_ok rb way i (r 0) (r 1) _ L c1 hw ((h.rowOf hw).trans hr) (by omega) w h.xo)
  have H := Lib.hid h
  have HW := Lib.hid hw
  have HR := Lib.hid hr
  have HSS := Lib.hid ho
  have HL := Lib.hid (And.intro hL hl)
  have H1 := Lib.hid (And.intro h1c hcl)
  have hiL : (i : Int) < (L : Int) := by omega
  have hlc : (L : Int) ≤ (c1 : Int) := by omega
  have hcm : (c1 : Int) ≤ 9223372036854775807 := by unfold maxLen at hm1; omega
  have t2 : ((64 : Int) ≤ (L : Int)) = False := by simp; omega
  obtain ⟨sa, sn, sc⟩ := s
  have hel : w.cell? ⟨g, off + i, none⟩ = some (.slice sa sn sc) := hel
  clear h hw hr hi hl hc1 hm1 hL hs hc ho hrow hcd h1c hcl
  go_enter Try.func55, Try.ntmps55
  go_wp2_with (first | (go_at_call 60; refine HST.out.mono ?_; rintro e w' ⟨rfl, rfl⟩) | (go_at_call 39; refine HRow.out.mono ?_; rintro e w' ⟨rfl, rfl⟩))
  refine (own_any (.slice sa sn sc) c' H1.out.1 H1.out.2 w HSS.out.reads).mono ?_
  rintro e1 w1 ⟨v1, rfl, ho, hs⟩
  obtain ⟨q2, n2, c2, rfl⟩ := ho.slice'
  have HO := Lib.hid ho
  have HS := Lib.hid hs
  have HX := Lib.hid ((H.out.same hs).same (Step.alloc w1 (.cells #[.slice q2 n2 c2] 68)))
  clear ho hs
  go_wp2_with (at_builtin; refine wpList_push _ rfl _ _ 90 rfl 68 i0 (.slice none 0 0) 24 Try.underlying90 hi0 hz0 hz1 hz2 rfl B (.slice (some ⟨g, off, none⟩) L c1) ((e way).map encS) rfl (by have := HX.out.xr way HW.out; rw [HR.out] at this; exact this) rfl ⟨w1.heap.size, 0, none⟩ 1 (.slice q2 n2 c2) rfl (cell_new2 rfl) (by simp [Value.oneCell']) (by have := HL.out; simp; omega) (by omega) HX.out.size ?_; intro v' w4 hown hst hblk; obtain ⟨qa, na, ca, rfl⟩ := hown.slice'; have HP := Lib.hid (ref_push (s := (q2, n2, c2)) (c := c') HW.out H.out HS.out HO.out (by rw [HR.out]; exact hst) hown (by rw [HR.out]; exact hblk)); clear hown hst hblk)
  refine (set_ok rb way (r 0) (r 1) HW.out qa na ca w4 HP.out.2).mono ?_
  rintro e5 w5 ⟨⟨v5, rfl⟩, rfl⟩
  go_wp2
  go_ret
  exact ⟨rfl, _, _, HP.out.1⟩

theorem rdouble_full (B rb way i : Nat) (hw : way < 2) (r : Nat → Value) (e : Nat → List Sl) (d : Nat → List (List Value)) (hi : i < (e way).length) (hl : 64 ≤ (e way).length) (w : World) (h : RefAt B w rb r e d) :
    Calls Try.prog 55 #[.pointer (some ⟨rb, 0, none⟩), .int .i64 (way : Int), .int .i64 (i : Int)] w fun e_ w' => e_ = .returned (.int .i64 7) ∧ w = w' := by
  obtain ⟨q1, c1, hr, hc1, hm1⟩ := (h.xr way hw).form
  rw [List.length_map] at hr hc1
  obtain ⟨L, hL⟩ : ∃ L, L = (e way).length := ⟨_, rfl⟩
  rw [← hL] at hr hl hi
  have hrow := row_ok rb way (r 0) (r 1) hw w h.xo
  rw [h.rowOf hw, hr] at hrow
  have HRow := Lib.hid hrow
  have HST := Lib.hid (stands_ok rb way i (r 0) (r 1) _ L c1 hw ((h.rowOf hw).trans hr) hi w h.xo)
  have t2 : ((64 : Int) ≤ (L : Int)) = True := by simp; omega
  clear h hw hr hi hl hc1 hm1 hL hrow
  go_enter Try.func55, Try.ntmps55
  go_wp2_with (first | (go_at_call 60; refine HST.out.mono ?_; rintro e w' ⟨rfl, rfl⟩) | (go_at_call 39; refine HRow.out.mono ?_; rintro e w' ⟨rfl, rfl⟩))
  go_ret
  exact ⟨rfl, rfl⟩
end Go.Proofs.Ytnomnhlfenhjdaa
