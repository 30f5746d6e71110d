/- CreditBounded: the walk. No statement is proved here; nothing is assumed. -/
import Derived.Test.YtnomnhlfenhjdaaCreN
import Derived.Test.YtnomnhlfenhjdaaOpen
import Derived.OwnWalkIn
import Derived.TacticsInMore
import Derived.LoopNIn
import Derived.LoopIn
import Derived.Deep.QuietTactic
import Derived.BigQuiet
import Derived.Maps.OwnIn
import Derived.Deep.RegionHeld3
import Derived.Deep.RegionWith
import Derived.Deep.LoopGhost
import Derived.Laws.Bits64
namespace Go.Proofs.Ytnomnhlfenhjdaa
open Go.RowKit Go.Shelf
set_option linter.unusedVariables false
set_option linter.unusedSimpArgs false
set_option linter.unusedSimpArgs false
set_option linter.unusedSimpArgs false
set_option linter.unusedSimpArgs false
set_option linter.unusedSimpArgs false
set_option linter.unusedSimpArgs false
set_option linter.unusedSimpArgs false
set_option linter.unusedSimpArgs false
set_option linter.unusedSimpArgs false
set_option linter.unusedSimpArgs false
set_option linter.unusedSimpArgs false
attribute [local go_sem] Oper.semAt_some

/-- A narrower condition serves. -/
theorem wpAnyH_weaken {P : Program} {md : Region.Mode} {ops : Array Oper} {Q : Exit → Act → World → Prop} {S S' : World → Prop} (hSS : ∀ w, S' w → S w) :
    ∀ (fuel : Nat) (listed : Array Bool) (a : Act) (w : World), wpAnyH P md ops Q S' fuel listed a w → wpAnyH P md ops Q S fuel listed a w
  | 0, _, _, _, h => h
  | fuel + 1, _, _, _, h => ⟨h.1, fun i hi => wpOp_mono (fun a' w' h' => ⟨hSS _ h'.1, wpAnyH_weaken hSS fuel _ a' w' h'.2⟩) (h.2 i hi)⟩

/-- How many are on their way. -/
def wayLen (W : World) (bx : Nat) : Nat := match W.cell? ⟨bx, 2, none⟩ with | some (.slice _ n _) => n | _ => 0
theorem Stand.same {B k bx bs bg m : Nat} {W W' W'' : World} (h : Stand B k bx bs bg m W W') (hs : Step [] W' W'') : Stand B k bx bs bg m W W'' := by
  obtain ⟨g, p, G, t, u, sp, us, v1, v2, way, gs, hN, hE, hS⟩ := h
  exact ⟨g, p, G, t, u, sp, us, v1, v2, way, gs, hN, hE.same hs, hS.trans (StepB.of hs)⟩
theorem Stand.up {B k k' bx bs bg m : Nat} {W W' : World} (h : Stand B k bx bs bg m W W') (hk : k ≤ k') : Stand B k' bx bs bg m W W' := by
  obtain ⟨g, p, G, t, u, sp, us, v1, v2, way, gs, ⟨m1, m2, e1, e2, e3, o1, o2, o3, o4, o5, q1, q2, b1, b2, b3⟩, hE, hS⟩ := h
  exact ⟨g, p, G, t, u, sp, us, v1, v2, way, gs, ⟨m1, m2, e1, e2, e3, o1, o2, o3, o4, o5, q1, q2, by omega, by omega, by omega⟩, hE, hS⟩
theorem Stand.trans {B k bx bs bg m : Nat} {W0 W W' : World} (h : Stand B k bx bs bg m W W') (hs : StepB B W0 W) : Stand B k bx bs bg m W0 W' := by
  obtain ⟨g, p, G, t, u, sp, us, v1, v2, way, gs, hN, hE, hS⟩ := h
  exact ⟨g, p, G, t, u, sp, us, v1, v2, way, gs, hN, hE, hs.trans hS⟩
theorem Stand.step {B k bx bs bg m : Nat} {W W' : World} (h : Stand B k bx bs bg m W W') : StepB B W W' := by
  obtain ⟨g, p, G, t, u, sp, us, v1, v2, way, gs, hN, hE, hS⟩ := h
  exact hS
def maxTo (g : Nat) : List Nat → Nat
  | [] => g
  | x :: l => maxTo (max g x) l

set_option maxRecDepth 100000 in
set_option maxHeartbeats 40000000 in
theorem bounded_walk (lim : Nat) (hlim : lim < 256) (q : Option Addr) (N cap : Nat) (hN : N ≤ cap) (hcap : cap ≤ maxLen) (V : Nat → Nat → Value) (w : World) (hrow : RowOf w q N 2 V)
    (hV : ∀ i, i < N → ∃ (x y : Nat), V i 0 = .int .u8 (x : Int) ∧ V i 1 = .int .u8 (y : Int) ∧ x < 256 ∧ y < 256) :
    Calls Try.prog 4 #[.int .u8 (lim : Int), .slice q N cap] w fun e w' => e = .returned (.bool true) ∧ Step [] w w' := by
  obtain ⟨m, hm⟩ : ∃ m, m = lim + 1 := ⟨_, rfl⟩
  have em : (1 : Int) + (lim : Int) = (m : Int) := by omega
  have HM1 := Lib.hid (show 1 ≤ m by omega)
  have HM2 := Lib.hid (show m ≤ 8192 by omega)
  have HM3 := Lib.hid (show m ≤ 256 by omega)
  have HV := Lib.hid hV
  have HR := Lib.hid hrow
  have hNm : (N : Int) ≤ 9223372036854775807 := by unfold maxLen at hcap; omega
  clear hV hrow hN hcap hm
  go_enter Try.func4, Try.ntmps4
  go_wp2_with fail
  refine (newSp_ok m HM1.out HM2.out w).mono ?_
  rintro e w1 ⟨bs, rfl, hbs, hsp, hs1⟩
  have K1 := Lib.hid (And.intro hbs (And.intro hsp hs1))
  clear hbs hsp hs1
  go_wp2_with fail
  refine (newGv_ok m HM1.out HM2.out w1).mono ?_
  rintro e w2 ⟨bg, rfl, hbg, hgv, hs2⟩
  have K2 := Lib.hid (And.intro hbg (And.intro hgv hs2))
  clear hbg hgv hs2
  go_wp2_with fail
  have hF : Stand w.heap.size 0 w2.heap.size bs bg m w (w2.alloc (endsObj bs bg (.slice none 0 0) (.slice none 0 0) 0 0)) := by
    obtain ⟨a1, a2, a3⟩ := K1.out
    obtain ⟨a4, a5, a6⟩ := K2.out
    have s1 := a3.size
    have s2 := a6.size
    have h1 := HM1.out
    have h2 := HM3.out
    refine ⟨m, 0, m, 0, 0, 0, 0, _, _, [], [], ⟨h1, h2, rfl, rfl, rfl, by omega, by omega, by omega, by omega, by omega, by simp, .inl rfl, by omega, by simp, by simp⟩, ⟨by rw [heap_alloc_get, if_pos rfl], obj_step (obj_step a2 a6 (by simp)) (Step.alloc (S := []) _ _) (by simp), obj_step a5 (Step.alloc (S := []) _ _) (by simp), ownAt_nil _ _ _, ownAt_nil _ _ _, fun k hk => (nomatch hk), by omega, a1, by omega⟩, StepB.of ((a3.trans a6).trans (Step.alloc _ _))⟩
  have HF := Lib.hid hF
  clear K1 K2 hF
  have HF2 := Lib.hid (show Stand w.heap.size 0 w2.heap.size bs bg m w (w2.alloc (.cells #[.pointer (some ⟨bs, 0, none⟩), .pointer (some ⟨bg, 0, none⟩), .slice none 0 0, .slice none 0 0, .int .i64 0, .int .i64 0] 55)) from HF.out)
  clear HF
  generalize w2.alloc (.cells #[.pointer (some ⟨bs, 0, none⟩), .pointer (some ⟨bg, 0, none⟩), .slice none 0 0, .slice none 0 0, .int .i64 0, .int .i64 0] 55) = w3 at *
  generalize w2.heap.size = bx at *
  go_loopw [41] (fun i wr => ∃ k : Nat, k ≤ N ∧ k ≤ 120 ∧ i = .int .i64 (k : Int) ∧ Hid (Stand w.heap.size k bx bs bg m w wr)) (fun i wr => N - (intOf i).toNat)
  case atStart => exact ⟨0, by omega, by omega, rfl, HF2⟩
  case round =>
    obtain ⟨k, hk, hk8, rfl, hi⟩ := hrel
    clear HF2
    by_cases hgo : k < N ∧ k ≠ 120
    · obtain ⟨hlt, h120⟩ := hgo
      have b120 : ((k : Int) == 120) = false := by simp; omega
      obtain ⟨b, off, rfl, hc⟩ : ∃ b off, q = some ⟨b, off, none⟩ ∧ ∀ j, j < 2 → wr.cell? ⟨b, off + (k * 2 + j), none⟩ = some (V k j) := by
        rcases HR.out with h0 | ⟨b, off, rfl, hc⟩
        · omega
        · exact ⟨b, off, rfl, fun j hj => step_cell (hi.out.step.nil) (hc k hlt j hj)⟩
      obtain ⟨x, y, v0, v1, hx, hy⟩ := HV.out k hlt
      have c0 : wr.cell? ⟨b, off + k * 2, none⟩ = some (.int .u8 (x : Int)) := (hc 0 (by omega)).trans (by rw [v0])
      have c1 : wr.cell? ⟨b, off + k * 2 + 1, none⟩ = some (.int .u8 (y : Int)) := (hc 1 (by omega)).trans (by rw [v1])
      have HX := Lib.hid (And.intro hx hy)
      clear hc v0 v1 hx hy
      go_wp2_with fail
      have H1 := Lib.hid (hi.out.same (Step.alloc wr (.cells #[.int .u8 (x : Int), .int .u8 (y : Int)] 57)))
      have hc0 : (wr.alloc (.cells #[.int .u8 (x : Int), .int .u8 (y : Int)] 57)).heap[wr.heap.size]? = some (.cells #[.int .u8 (x : Int), .int .u8 (y : Int)] 57) := by rw [heap_alloc_get, if_pos rfl]
      clear hi
      generalize wr.alloc (.cells #[.int .u8 (x : Int), .int .u8 (y : Int)] 57) = W1 at *
      generalize wr.heap.size = cb at *
      have k0 : W1.drew.cell? ⟨cb, 0, none⟩ = some (.int .u8 (x : Int)) := cells_cell hc0 rfl
      have k1 : W1.drew.cell? ⟨cb, 1, none⟩ = some (.int .u8 (y : Int)) := cells_cell hc0 rfl
      have H2 := Lib.hid (H1.out.same (Step.drew W1))
      clear H1 hc0
      refine wp_region_noPanic ?_
      refine wp_region_held_drew (S := fun _ => True) (by kernel_rfl) trivial (fun hHeld => ?_)
      refine wpAnyH_take (i := 0) (v := ?v0_1) rfl (by kernel_rfl) (by kernel_rfl) (by kernel_rfl) (fun _ _ _ h => h) (Or.inl ⟨by rfl, ?y0_1⟩) (by assumption) ?r0_1
      case y0_1 => ((try simp only [List.getElem_toArray, List.getElem_cons_succ, List.getElem_cons_zero]); intro w hSw; (try dsimp only at hSw); go_simp; first | done | with_reducible rfl)
      (try simp only [Act.put, List.getElem_toArray, List.getElem_cons_succ, List.getElem_cons_zero, List.setIfInBounds_toArray, List.set_cons_zero, List.set_cons_succ])
      refine wpAnyH_ready (rs := [1]) (by kernel_rfl) (by simp) ?_
      refine AllReadyH.cons (o := _) rfl (fun K hK => ?_) AllReadyH.nil
      go_simp
      refine hK.out _ _ trivial (fun hHeld => ?_)
      clear hK K
      (try simp only [Act.put, List.getElem_toArray, List.getElem_cons_succ, List.getElem_cons_zero, List.setIfInBounds_toArray, List.set_cons_zero, List.set_cons_succ])
      refine wpAnyH_ready (rs := [2]) (by kernel_rfl) (by simp) ?_
      refine AllReadyH.cons (o := _) rfl (fun K hK => ?_) AllReadyH.nil
      go_simp
      obtain ⟨g, p, G, t, u, sp, us, v1, v2, way, gs, hN, hE, hS⟩ := H2.out
      clear H2
      refine (does_any w.heap.size k x y (by omega) HX.out.1 HX.out.2 bx bs bg m g p G t u sp us v1 v2 way gs _ hN hE).mono ?_
      rintro e w' ⟨rfl, hst⟩
      replace hst := hst.trans hS
      clear hN hE hS k0 k1
      obtain ⟨g, p, G, t, u, sp, us, v1, v2, way, gs, hN, hE, hS⟩ := hst
      have HE := Lib.hid hE
      have HN := Lib.hid hN
      have HSS := Lib.hid hS
      have tw : IntKind.i64.wrap ((sp : Int) - (us : Int)) = ((sp - us : Nat) : Int) := by obtain ⟨m1, m2, e1, e2, e3, o1, o2, o3, o4, o5, q1, q2, b1, b2, b3⟩ := hN; rw [IntKind.wrap_i64]; omega
      have tt : ((m : Int) < ((sp - us : Nat) : Int)) = False := by obtain ⟨m1, m2, e1, e2, e3, o1, o2, o3, o4, o5, q1, q2, b1, b2, b3⟩ := hN; simp; omega
      have tl : ((m : Int) < ((g - p : Nat) : Int)) = False := by obtain ⟨m1, m2, e1, e2, e3, o1, o2, o3, o4, o5, q1, q2, b1, b2, b3⟩ := hN; simp; omega
      have th : ((m : Int) < ((t - u : Nat) : Int)) = False := by obtain ⟨m1, m2, e1, e2, e3, o1, o2, o3, o4, o5, q1, q2, b1, b2, b3⟩ := hN; simp; omega
      have HG := Lib.hid (show g < 4611686018427387904 by obtain ⟨m1, m2, e1, e2, e3, o1, o2, o3, o4, o5, q1, q2, b1, b2, b3⟩ := hN; omega)
      have HT := Lib.hid (show t < 4611686018427387904 by obtain ⟨m1, m2, e1, e2, e3, o1, o2, o3, o4, o5, q1, q2, b1, b2, b3⟩ := hN; omega)
      clear hN hE hS
      (try go_wp2_with fail)
      refine hK.out _ _ trivial (fun hHeld => ?_)
      clear hK K
      (try simp only [Act.put, List.getElem_toArray, List.getElem_cons_succ, List.getElem_cons_zero, List.setIfInBounds_toArray, List.set_cons_zero, List.set_cons_succ])
      clear hHeld
      have hHeld : (fun W : World => W.cell? ⟨bx, 4, none⟩ = some (.int .i64 (sp : Int)) ∧ W.cell? ⟨bx, 5, none⟩ = some (.int .i64 (us : Int))) w' := ⟨HE.out.cells.2.2.2.2.1, HE.out.cells.2.2.2.2.2.1⟩
      refine wpAnyH_weaken (S' := fun W : World => W.cell? ⟨bx, 4, none⟩ = some (.int .i64 (sp : Int)) ∧ W.cell? ⟨bx, 5, none⟩ = some (.int .i64 (us : Int))) (fun _ _ => trivial) _ _ _ _ ?_
      refine wpAnyH_take (i := 3) (v := ?v3_2) rfl (by kernel_rfl) (by kernel_rfl) (by kernel_rfl) (fun _ _ _ h => h) (Or.inl ⟨by rfl, ?y3_2⟩) (by assumption) ?r3_2
      case y3_2 => ((try simp only [List.getElem_toArray, List.getElem_cons_succ, List.getElem_cons_zero]); intro w hSw; (try dsimp only at hSw); go_simp; first | done | with_reducible rfl)
      (try simp only [Act.put, List.getElem_toArray, List.getElem_cons_succ, List.getElem_cons_zero, List.setIfInBounds_toArray, List.set_cons_zero, List.set_cons_succ])
      refine wpAnyH_take (i := 4) (v := ?v4_3) rfl (by kernel_rfl) (by kernel_rfl) (by kernel_rfl) (fun _ _ _ h => h) (Or.inl ⟨by rfl, ?y4_3⟩) (by assumption) ?r4_3
      case y4_3 => ((try simp only [List.getElem_toArray, List.getElem_cons_succ, List.getElem_cons_zero]); intro w hSw; (try dsimp only at hSw); go_simp; first | done | with_reducible rfl)
      (try simp only [Act.put, List.getElem_toArray, List.getElem_cons_succ, List.getElem_cons_zero, List.setIfInBounds_toArray, List.set_cons_zero, List.set_cons_succ])
      refine wpAnyH_take (i := 5) (v := ?v5_4) rfl (by kernel_rfl) (by kernel_rfl) (by kernel_rfl) (fun _ _ _ h => h) (Or.inl ⟨by rfl, ?y5_4⟩) (by assumption) ?r5_4
      case y5_4 => ((try simp only [List.getElem_toArray, List.getElem_cons_succ, List.getElem_cons_zero]); intro w hSw; (try dsimp only at hSw); go_simp; first | done | with_reducible rfl)
      (try simp only [Act.put, List.getElem_toArray, List.getElem_cons_succ, List.getElem_cons_zero, List.setIfInBounds_toArray, List.set_cons_zero, List.set_cons_succ])
      refine wpAnyH_take (i := 6) (v := ?v6_5) rfl (by kernel_rfl) (by kernel_rfl) (by kernel_rfl) (fun _ _ _ h => h) (Or.inl ⟨by rfl, ?y6_5⟩) (by assumption) ?r6_5
      case y6_5 => ((try simp only [List.getElem_toArray, List.getElem_cons_succ, List.getElem_cons_zero]); intro w hSw; (try dsimp only at hSw); go_simp; first | done | with_reducible rfl)
      (try simp only [Act.put, List.getElem_toArray, List.getElem_cons_succ, List.getElem_cons_zero, List.setIfInBounds_toArray, List.set_cons_zero, List.set_cons_succ])
      refine wpAnyH_take (i := 7) (v := ?v7_6) rfl (by kernel_rfl) (by kernel_rfl) (by kernel_rfl) (fun _ _ _ h => h) (Or.inl ⟨by rfl, ?y7_6⟩) (by assumption) ?r7_6
      case y7_6 => ((try simp only [List.getElem_toArray, List.getElem_cons_succ, List.getElem_cons_zero]); intro w hSw; (try dsimp only at hSw); go_simp; first | done | with_reducible rfl)
      (try simp only [Act.put, List.getElem_toArray, List.getElem_cons_succ, List.getElem_cons_zero, List.setIfInBounds_toArray, List.set_cons_zero, List.set_cons_succ])
      refine wpAnyH_take (i := 8) (v := ?v8_7) rfl (by kernel_rfl) (by kernel_rfl) (by kernel_rfl) (fun _ _ _ h => h) (Or.inl ⟨by rfl, ?y8_7⟩) (by assumption) ?r8_7
      case y8_7 => ((try simp only [List.getElem_toArray, List.getElem_cons_succ, List.getElem_cons_zero]); intro w hSw; (try dsimp only at hSw); go_simp; first | done | with_reducible rfl)
      (try simp only [Act.put, List.getElem_toArray, List.getElem_cons_succ, List.getElem_cons_zero, List.setIfInBounds_toArray, List.set_cons_zero, List.set_cons_succ])
      refine wpAnyH_take (i := 9) (v := ?v9_8) rfl (by kernel_rfl) (by kernel_rfl) (by kernel_rfl) (fun _ _ _ h => h) (Or.inl ⟨by rfl, ?y9_8⟩) (by assumption) ?r9_8
      case y9_8 => ((try simp only [List.getElem_toArray, List.getElem_cons_succ, List.getElem_cons_zero]); intro w hSw; (try dsimp only at hSw); go_simp; first | done | with_reducible rfl)
      (try simp only [Act.put, List.getElem_toArray, List.getElem_cons_succ, List.getElem_cons_zero, List.setIfInBounds_toArray, List.set_cons_zero, List.set_cons_succ])
      refine wpAnyH_take (i := 10) (v := ?v10_9) rfl (by kernel_rfl) (by kernel_rfl) (by kernel_rfl) (fun _ _ _ h => h) (Or.inl ⟨by rfl, ?y10_9⟩) (by assumption) ?r10_9
      case y10_9 => ((try simp only [List.getElem_toArray, List.getElem_cons_succ, List.getElem_cons_zero]); intro w hSw; (try dsimp only at hSw); go_simp; first | done | with_reducible rfl)
      (try simp only [Act.put, List.getElem_toArray, List.getElem_cons_succ, List.getElem_cons_zero, List.setIfInBounds_toArray, List.set_cons_zero, List.set_cons_succ])
      refine wpAnyH_take (i := 11) (v := ?v11_10) rfl (by kernel_rfl) (by kernel_rfl) (by kernel_rfl) (fun _ _ _ h => h) (Or.inl ⟨by rfl, ?y11_10⟩) (by assumption) ?r11_10
      case y11_10 => ((try simp only [List.getElem_toArray, List.getElem_cons_succ, List.getElem_cons_zero]); intro w hSw; (try dsimp only at hSw); go_simp; first | done | with_reducible rfl)
      (try simp only [Act.put, List.getElem_toArray, List.getElem_cons_succ, List.getElem_cons_zero, List.setIfInBounds_toArray, List.set_cons_zero, List.set_cons_succ])
      refine wpAnyH_take (i := 12) (v := ?v12_11) rfl (by kernel_rfl) (by kernel_rfl) (by kernel_rfl) (fun _ _ _ h => h) (Or.inl ⟨by rfl, ?y12_11⟩) (by assumption) ?r12_11
      case y12_11 => ((try simp only [List.getElem_toArray, List.getElem_cons_succ, List.getElem_cons_zero]); intro w hSw; (try dsimp only at hSw); go_simp; first | done | with_reducible rfl)
      (try simp only [Act.put, List.getElem_toArray, List.getElem_cons_succ, List.getElem_cons_zero, List.setIfInBounds_toArray, List.set_cons_zero, List.set_cons_succ])
      refine wpAnyH_take (i := 13) (v := ?v13_12) rfl (by kernel_rfl) (by kernel_rfl) (by kernel_rfl) (fun _ _ _ h => h) (Or.inl ⟨by rfl, ?y13_12⟩) (by assumption) ?r13_12
      case y13_12 => ((try simp only [List.getElem_toArray, List.getElem_cons_succ, List.getElem_cons_zero]); intro w hSw; (try dsimp only at hSw); go_simp; first | done | with_reducible rfl)
      (try simp only [Act.put, List.getElem_toArray, List.getElem_cons_succ, List.getElem_cons_zero, List.setIfInBounds_toArray, List.set_cons_zero, List.set_cons_succ])
      refine wpAnyH_take (i := 14) (v := ?v14_13) rfl (by kernel_rfl) (by kernel_rfl) (by kernel_rfl) (fun _ _ _ h => h) (Or.inl ⟨by rfl, ?y14_13⟩) (by assumption) ?r14_13
      case y14_13 => ((try simp only [List.getElem_toArray, List.getElem_cons_succ, List.getElem_cons_zero]); intro w hSw; (try dsimp only at hSw); go_simp; first | done | with_reducible rfl)
      (try simp only [Act.put, List.getElem_toArray, List.getElem_cons_succ, List.getElem_cons_zero, List.setIfInBounds_toArray, List.set_cons_zero, List.set_cons_succ])
      refine wpAnyH_take (i := 15) (v := ?v15_14) rfl (by kernel_rfl) (by kernel_rfl) (by kernel_rfl) (fun _ _ _ h => h) (Or.inl ⟨by rfl, ?y15_14⟩) (by assumption) ?r15_14
      case y15_14 => ((try simp only [List.getElem_toArray, List.getElem_cons_succ, List.getElem_cons_zero]); intro w hSw; (try dsimp only at hSw); go_simp; first | done | with_reducible rfl)
      (try simp only [Act.put, List.getElem_toArray, List.getElem_cons_succ, List.getElem_cons_zero, List.setIfInBounds_toArray, List.set_cons_zero, List.set_cons_succ])
      refine wpAnyH_take (i := 16) (v := ?v16_15) rfl (by kernel_rfl) (by kernel_rfl) (by kernel_rfl) (fun _ _ _ h => h) (Or.inl ⟨by rfl, ?y16_15⟩) (by assumption) ?r16_15
      case y16_15 => ((try simp only [List.getElem_toArray, List.getElem_cons_succ, List.getElem_cons_zero]); intro w hSw; (try dsimp only at hSw); go_simp; first | done | with_reducible rfl)
      (try simp only [Act.put, List.getElem_toArray, List.getElem_cons_succ, List.getElem_cons_zero, List.setIfInBounds_toArray, List.set_cons_zero, List.set_cons_succ])
      refine wpAnyH_take (i := 17) (v := ?v17_16) rfl (by kernel_rfl) (by kernel_rfl) (by kernel_rfl) (fun _ _ _ h => h) (Or.inl ⟨by rfl, ?y17_16⟩) (by assumption) ?r17_16
      case y17_16 => ((try simp only [List.getElem_toArray, List.getElem_cons_succ, List.getElem_cons_zero]); intro w hSw; (try dsimp only at hSw); go_simp; first | done | with_reducible rfl)
      (try simp only [Act.put, List.getElem_toArray, List.getElem_cons_succ, List.getElem_cons_zero, List.setIfInBounds_toArray, List.set_cons_zero, List.set_cons_succ])
      refine wpAnyH_take (i := 18) (v := ?v18_17) rfl (by kernel_rfl) (by kernel_rfl) (by kernel_rfl) (fun _ _ _ h => h) (Or.inl ⟨by rfl, ?y18_17⟩) (by assumption) ?r18_17
      case y18_17 => ((try simp only [List.getElem_toArray, List.getElem_cons_succ, List.getElem_cons_zero]); intro w hSw; (try dsimp only at hSw); go_simp; first | done | with_reducible rfl)
      (try simp only [Act.put, List.getElem_toArray, List.getElem_cons_succ, List.getElem_cons_zero, List.setIfInBounds_toArray, List.set_cons_zero, List.set_cons_succ])
      refine wpAnyH_take (i := 20) (v := ?v20_18) rfl (by kernel_rfl) (by kernel_rfl) (by kernel_rfl) (fun _ _ _ h => h) (Or.inl ⟨by rfl, ?y20_18⟩) (by assumption) ?r20_18
      case y20_18 => ((try simp only [List.getElem_toArray, List.getElem_cons_succ, List.getElem_cons_zero]); intro w hSw; (try dsimp only at hSw); go_simp; first | done | with_reducible rfl)
      (try simp only [Act.put, List.getElem_toArray, List.getElem_cons_succ, List.getElem_cons_zero, List.setIfInBounds_toArray, List.set_cons_zero, List.set_cons_succ])
      refine wpAnyH_ready (rs := [19]) (by kernel_rfl) (by simp) ?_
      refine AllReadyH.cons (o := _) rfl (fun K hK => ?_) AllReadyH.nil
      go_simp
      refine (left_is bs m g p ((g - p : Nat) : Int) HN.out.m1 HN.out.o2 HG.out rfl _ HE.out.xs).mono ?_
      rintro e wa ⟨rfl, hh, hs⟩
      replace HSS := Lib.hid (HSS.out.trans (StepB.one hs HE.out.bs0))
      replace HE := Lib.hid (HE.out.turnS hs hh)
      clear hh hs
      (try go_wp2_with fail)
      refine hK.out _ _ ⟨HE.out.cells.2.2.2.2.1, HE.out.cells.2.2.2.2.2.1⟩ (fun hHeld => ?_)
      clear hK K
      (try simp only [Act.put, List.getElem_toArray, List.getElem_cons_succ, List.getElem_cons_zero, List.setIfInBounds_toArray, List.set_cons_zero, List.set_cons_succ])
      refine wpAnyH_take (i := 21) (v := ?v21_19) rfl (by kernel_rfl) (by kernel_rfl) (by kernel_rfl) (fun _ _ _ h => h) (Or.inl ⟨by rfl, ?y21_19⟩) (by assumption) ?r21_19
      case y21_19 => ((try simp only [List.getElem_toArray, List.getElem_cons_succ, List.getElem_cons_zero]); intro w hSw; (try dsimp only at hSw); go_simp; first | done | with_reducible rfl)
      (try simp only [Act.put, List.getElem_toArray, List.getElem_cons_succ, List.getElem_cons_zero, List.setIfInBounds_toArray, List.set_cons_zero, List.set_cons_succ])
      refine wpAnyH_take (i := 22) (v := ?v22_20) rfl (by kernel_rfl) (by kernel_rfl) (by kernel_rfl) (fun _ _ _ h => h) (Or.inl ⟨by rfl, ?y22_20⟩) (by assumption) ?r22_20
      case y22_20 => ((try simp only [List.getElem_toArray, List.getElem_cons_succ, List.getElem_cons_zero]); intro w hSw; (try dsimp only at hSw); go_simp; first | done | with_reducible rfl)
      (try simp only [Act.put, List.getElem_toArray, List.getElem_cons_succ, List.getElem_cons_zero, List.setIfInBounds_toArray, List.set_cons_zero, List.set_cons_succ])
      refine wpAnyH_take (i := 23) (v := ?v23_21) rfl (by kernel_rfl) (by kernel_rfl) (by kernel_rfl) (fun _ _ _ h => h) (Or.inl ⟨by rfl, ?y23_21⟩) (by assumption) ?r23_21
      case y23_21 => ((try simp only [List.getElem_toArray, List.getElem_cons_succ, List.getElem_cons_zero]); intro w hSw; (try dsimp only at hSw); go_simp; first | done | with_reducible rfl)
      (try simp only [Act.put, List.getElem_toArray, List.getElem_cons_succ, List.getElem_cons_zero, List.setIfInBounds_toArray, List.set_cons_zero, List.set_cons_succ])
      refine wpAnyH_take (i := 24) (v := ?v24_22) rfl (by kernel_rfl) (by kernel_rfl) (by kernel_rfl) (fun _ _ _ h => h) (Or.inl ⟨by rfl, ?y24_22⟩) (by assumption) ?r24_22
      case y24_22 => ((try simp only [List.getElem_toArray, List.getElem_cons_succ, List.getElem_cons_zero]); intro w hSw; (try dsimp only at hSw); go_simp; first | done | with_reducible rfl)
      (try simp only [Act.put, List.getElem_toArray, List.getElem_cons_succ, List.getElem_cons_zero, List.setIfInBounds_toArray, List.set_cons_zero, List.set_cons_succ])
      refine wpAnyH_take (i := 26) (v := ?v26_23) rfl (by kernel_rfl) (by kernel_rfl) (by kernel_rfl) (fun _ _ _ h => h) (Or.inl ⟨by rfl, ?y26_23⟩) (by assumption) ?r26_23
      case y26_23 => ((try simp only [List.getElem_toArray, List.getElem_cons_succ, List.getElem_cons_zero]); intro w hSw; (try dsimp only at hSw); go_simp; first | done | with_reducible rfl)
      (try simp only [Act.put, List.getElem_toArray, List.getElem_cons_succ, List.getElem_cons_zero, List.setIfInBounds_toArray, List.set_cons_zero, List.set_cons_succ])
      refine wpAnyH_ready (rs := [25]) (by kernel_rfl) (by simp) ?_
      refine AllReadyH.cons (o := _) rfl (fun K hK => ?_) AllReadyH.nil
      go_simp
      refine (held_is bg m G t u ((t - u : Nat) : Int) HN.out.m1 HN.out.o1 HT.out rfl _ HE.out.xg).mono ?_
      rintro e wb ⟨rfl, hh, hs⟩
      replace HSS := Lib.hid (HSS.out.trans (StepB.one hs HE.out.bg0))
      replace HE := Lib.hid (HE.out.turnG hs hh)
      clear hh hs
      (try go_wp2_with fail)
      refine hK.out _ _ ⟨HE.out.cells.2.2.2.2.1, HE.out.cells.2.2.2.2.2.1⟩ (fun hHeld => ?_)
      clear hK K
      (try simp only [Act.put, List.getElem_toArray, List.getElem_cons_succ, List.getElem_cons_zero, List.setIfInBounds_toArray, List.set_cons_zero, List.set_cons_succ])
      refine wpAnyH_take (i := 27) (v := ?v27_24) rfl (by kernel_rfl) (by kernel_rfl) (by kernel_rfl) (fun _ _ _ h => h) (Or.inl ⟨by rfl, ?y27_24⟩) (by assumption) ?r27_24
      case y27_24 => ((try simp only [List.getElem_toArray, List.getElem_cons_succ, List.getElem_cons_zero]); intro w hSw; (try dsimp only at hSw); go_simp; first | done | with_reducible rfl)
      (try simp only [Act.put, List.getElem_toArray, List.getElem_cons_succ, List.getElem_cons_zero, List.setIfInBounds_toArray, List.set_cons_zero, List.set_cons_succ])
      refine wpAnyH_take (i := 28) (v := ?v28_25) rfl (by kernel_rfl) (by kernel_rfl) (by kernel_rfl) (fun _ _ _ h => h) (Or.inl ⟨by rfl, ?y28_25⟩) (by assumption) ?r28_25
      case y28_25 => ((try simp only [List.getElem_toArray, List.getElem_cons_succ, List.getElem_cons_zero]); intro w hSw; (try dsimp only at hSw); go_simp; first | done | with_reducible rfl)
      (try simp only [Act.put, List.getElem_toArray, List.getElem_cons_succ, List.getElem_cons_zero, List.setIfInBounds_toArray, List.set_cons_zero, List.set_cons_succ])
      refine wpAnyH_take (i := 29) (v := ?v29_26) rfl (by kernel_rfl) (by kernel_rfl) (by kernel_rfl) (fun _ _ _ h => h) (Or.inl ⟨by rfl, ?y29_26⟩) (by assumption) ?r29_26
      case y29_26 => ((try simp only [List.getElem_toArray, List.getElem_cons_succ, List.getElem_cons_zero]); intro w hSw; (try dsimp only at hSw); go_simp; first | done | with_reducible rfl)
      (try simp only [Act.put, List.getElem_toArray, List.getElem_cons_succ, List.getElem_cons_zero, List.setIfInBounds_toArray, List.set_cons_zero, List.set_cons_succ])
      refine wpAnyH_take (i := 30) (v := ?v30_27) rfl (by kernel_rfl) (by kernel_rfl) (by kernel_rfl) (fun _ _ _ h => h) (Or.inl ⟨by rfl, ?y30_27⟩) (by assumption) ?r30_27
      case y30_27 => ((try simp only [List.getElem_toArray, List.getElem_cons_succ, List.getElem_cons_zero]); intro w hSw; (try dsimp only at hSw); go_simp; first | done | with_reducible rfl)
      (try simp only [Act.put, List.getElem_toArray, List.getElem_cons_succ, List.getElem_cons_zero, List.setIfInBounds_toArray, List.set_cons_zero, List.set_cons_succ])
      refine wpAnyH_ready (rs := [31]) (by kernel_rfl) (by simp) ?_
      refine AllReadyH.cons (o := _) rfl (fun K hK => ?_) AllReadyH.nil
      go_simp
      refine (left_is bs m g p ((g - p : Nat) : Int) HN.out.m1 HN.out.o2 HG.out rfl _ HE.out.xs).mono ?_
      rintro e wc ⟨rfl, hh, hs⟩
      replace HSS := Lib.hid (HSS.out.trans (StepB.one hs HE.out.bs0))
      replace HE := Lib.hid (HE.out.turnS hs hh)
      clear hh hs
      (try go_wp2_with fail)
      refine hK.out _ _ ⟨HE.out.cells.2.2.2.2.1, HE.out.cells.2.2.2.2.2.1⟩ (fun hHeld => ?_)
      clear hK K
      (try simp only [Act.put, List.getElem_toArray, List.getElem_cons_succ, List.getElem_cons_zero, List.setIfInBounds_toArray, List.set_cons_zero, List.set_cons_succ])
      refine wpAnyH_take (i := 32) (v := ?v32_28) rfl (by kernel_rfl) (by kernel_rfl) (by kernel_rfl) (fun _ _ _ h => h) (Or.inl ⟨by rfl, ?y32_28⟩) (by assumption) ?r32_28
      case y32_28 => ((try simp only [List.getElem_toArray, List.getElem_cons_succ, List.getElem_cons_zero]); intro w hSw; (try dsimp only at hSw); go_simp; first | done | with_reducible rfl)
      (try simp only [Act.put, List.getElem_toArray, List.getElem_cons_succ, List.getElem_cons_zero, List.setIfInBounds_toArray, List.set_cons_zero, List.set_cons_succ])
      refine wpAnyH_take (i := 33) (v := ?v33_29) rfl (by kernel_rfl) (by kernel_rfl) (by kernel_rfl) (fun _ _ _ h => h) (Or.inl ⟨by rfl, ?y33_29⟩) (by assumption) ?r33_29
      case y33_29 => ((try simp only [List.getElem_toArray, List.getElem_cons_succ, List.getElem_cons_zero]); intro w hSw; (try dsimp only at hSw); go_simp; first | done | with_reducible rfl)
      (try simp only [Act.put, List.getElem_toArray, List.getElem_cons_succ, List.getElem_cons_zero, List.setIfInBounds_toArray, List.set_cons_zero, List.set_cons_succ])
      refine wpAnyH_done (by kernel_rfl) ?_ _
      refine NoPanic.normal ?_
      clear hHeld
      go_wp2
      go_roundw
      case rel => exact ⟨k + 1, by omega, by omega, by go_num, ⟨g, p, G, t, u, sp, us, v1, v2, way, gs, HN.out, HE.out, HSS.out⟩⟩
      case measure => simp [intOf]; omega
    · have H0 := Lib.hid (hi.out.up (k' := 121) (by omega))
      have hcase : k = N ∨ k < N ∧ k = 120 := by omega
      clear hgo
      rcases hcase with rfl | ⟨hlt, h120⟩
      · clear hi
        go_wp2_with fail
        obtain ⟨g, p, G, t, u, sp, us, v1, v2, way, gs, hN, hE, hS⟩ := H0.out
        obtain ⟨m1, m2, rfl, rfl, e3, o1, o2, o3, o4, o5, q1, q2, b1, b2, b3⟩ := hN
        have HA := Lib.hid (And.intro m1 (And.intro o1 (And.intro o2 (And.intro o3 (And.intro o4 (And.intro o5 (And.intro q1 (And.intro q2 (And.intro b1 b3)))))))))
        have HI := Lib.hid (And.intro e3 (And.intro hE hS))
        clear H0 m1 m2 e3 o1 o2 o3 o4 o5 q1 q2 b1 b2 b3 hE hS
        go_loopg [] way.length (fun n wr2 => ∃ (t' : Nat) (v' : Value) (ws : List Nat), n = ws.length ∧ Hid (sp = t' + ws.sum ∧ t ≤ t' ∧ Ends w.heap.size wr2 bx bs bg m g sp G t' us sp us v' v2 ws gs ∧ StepB w.heap.size w wr2))
        case atStart => exact ⟨t, v1, way, rfl, ⟨HI.out.1, Nat.le_refl _, HI.out.2.1, HI.out.2.2⟩⟩
        case round =>
          obtain ⟨t', v', ws, rfl, hI⟩ := hrel
          clear HI
          cases ws with
          | cons x ws =>
            obtain ⟨gk, off, cap', rfl, hl, hcm, hc⟩ := hI.out.2.2.1.xw.at (j := 0) (x := ival x) rfl
            obtain ⟨L, hL⟩ : ∃ L, L = ((x :: ws).map ival).length := ⟨_, rfl⟩
            rw [← hL] at hI hl
            obtain ⟨c0, c1, c2, c3, c4, c5, f2, f3, f4, f5⟩ := hI.out.2.2.1.cells
            have hL0 : (0 : Int) < (L : Int) := by rw [hL]; simp
            clear hL hl hcm hc
            go_wp2_with fail
            refine (does_take w.heap.size 4 3 (.inl rfl) (by omega) bx bs bg m g sp G t' us sp us _ v2 (x :: ws) gs HA.out.1 (by have := hI.out.1; have := HA.out.2.2.1; have := HA.out.2.2.2.1; omega) (by have := HA.out.2.2.2.2.1; have := HA.out.2.1; have := hI.out.1; have := HM3.out; have := HA.out.2.2.2.2.2.2.2.2.1; have := hI.out.2.1; omega) _ hI.out.2.2.1).mono ?_
            rintro e w5 ⟨rfl, v'', dn, ws', hw, hpos, hE, hS⟩
            have HE := Lib.hid hE
            have HS := Lib.hid (hI.out.2.2.2.trans hS)
            have HW := Lib.hid (And.intro hw hpos)
            clear hw hpos hE hS c0 c1 c2 c3 c4 c5 f2 f3 f4 f5
            go_wp2
            go_roundg ws'.length
            case measure =>
              have h1 := congrArg List.length HW.out.1
              have h2 := HW.out.2 (by omega) (by simp)
              have h3 := List.length_pos_iff.2 h2
              simp only [List.length_append] at h1
              omega
            case rel =>
              have h1 := congrArg List.sum HW.out.1
              simp only [List.sum_append] at h1
              exact ⟨t' + dn.sum, v'', ws', rfl, ⟨by have := hI.out.1; omega, by have := hI.out.2.1; omega, HE.out, HS.out⟩⟩
          | nil =>
            obtain ⟨q5, cap5, hv, _, _⟩ := hI.out.2.2.1.xw.form
            simp only [List.map_nil, List.length_nil] at hv
            subst hv
            obtain ⟨hp, htt, hE, hS⟩ := hI.out
            simp only [List.sum_nil, Nat.add_zero] at hp
            subst hp
            have HE := Lib.hid (And.intro htt (And.intro hE hS))
            clear hI
            obtain ⟨c0, c1, c2, c3, c4, c5, f2, f3, f4, f5⟩ := hE.cells
            clear htt hE hS
            go_wp2_with fail
            clear c0 c1 c2 c3 c4 c5 f2 f3 f4 f5
            have HB := Lib.hid (show us ≤ sp ∧ sp < 100000 ∧ sp - us ≤ 256 by have := HA.out.2.1; have := HE.out.1; have := HA.out.2.2.2.2.2.2.2.2.1; have := HA.out.2.2.1; have := HA.out.2.2.2.1; have := HA.out.2.2.2.2.1; have := HM3.out; omega)
            go_loopw [13] (fun i wr3 => ∃ (k u' : Nat), k ≤ 2 ∧ i = .int .i64 (k : Int) ∧ Hid ((sp - u' ≤ 256 - 255 * k ∧ us ≤ u' ∧ u' ≤ sp) ∧ Ends w.heap.size wr3 bx bs bg m g sp G sp u' sp u' (.slice q5 0 cap5) v2 [] gs ∧ StepB w.heap.size w wr3)) (fun i wr3 => 9 - (intOf i).toNat)
            case atStart => exact ⟨0, us, by omega, rfl, ⟨⟨by have := HB.out; omega, Nat.le_refl _, HB.out.1⟩, HE.out.2.1, HE.out.2.2⟩⟩
            case round =>
              obtain ⟨k3, u', hk3, rfl, hI⟩ := hrel
              clear HE
              obtain ⟨r, hr⟩ : ∃ r, r = sp - u' := ⟨_, rfl⟩
              have HR := Lib.hid hr
              have b9 : ((k3 : Int) == 9) = false := by simp; omega
              by_cases hz : r = 0
              · have tz : ((0 : Int) < (r : Int)) = False := by simp; omega
                have tz2 : (0 < r) = False := by simp; omega
                have HZ := Lib.hid hz
                clear hr hz
                go_wp2_with fail
                refine (held_is bg m G sp u' (r : Int) HA.out.1 hI.out.1.2.2 (by have := HB.out; omega) (by have := HR.out; omega) _ hI.out.2.1.xg).mono ?_
                rintro e w6 ⟨rfl, hh, hs⟩
                have HE := Lib.hid (hI.out.2.1.turnG hs hh)
                have HS := Lib.hid (hI.out.2.2.trans (StepB.one hs hI.out.2.1.bg0))
                have HU := Lib.hid (show u' = sp by have := HR.out; have := HZ.out; have := hI.out.1.2.2; omega)
                clear hh hs hI
                go_wp2_with fail
                have hc7 := does_grant w.heap.size 0 7 rfl (by omega) bx bs bg m g sp G sp u' sp u' _ v2 [] gs HA.out.1 HM2.out (by have := HA.out.2.2.2.2.1; have := HU.out; have := HB.out; omega) (by have := HU.out; have := HB.out; omega) (by have := HA.out.2.2.2.2.2.2.2.2.2; omega) _ HE.out
                have hc8 : Calls Try.prog 27 #[.pointer (some ⟨bx, 0, none⟩), .agg #[.int .u8 7, .int .u8 0]] w6 _ := hc7
                clear hc7
                refine hc8.mono ?_
                clear hc8
                rintro e w7 ⟨rfl, v3, hE, hS⟩
                replace HS := Lib.hid (HS.out.trans hS)
                have HQ := Lib.hid (show ∃ G' gs', dueG m G u' = G' ∧ (if due m G u' = true then gs ++ [dueN m G u'] else gs) = gs' ∧ g ≤ G' ∧ (∀ x ∈ gs', x ≤ G') ∧ (G' = m ∨ G' ∈ gs') ∧ sp ≤ G' ∧ 1 ≤ G' - sp ∧ m / 2 < G' - sp + 1 ∧ G' ≤ sp + m ∧ gs'.length ≤ 122 by
                  obtain ⟨a1, a2, a3, a4, a5, a6, a7, a8, a9, a10⟩ := HA.out
                  have h1 := HU.out
                  have h2 := HB.out
                  subst h1
                  by_cases hd : max (m / 2) 1 ≤ u' + m - G
                  · rw [show due m G u' = true from decide_eq_true hd, if_pos rfl, show dueN m G u' = u' + m from if_pos hd, show dueG m G u' = u' + m from if_pos hd]
                    refine ⟨_, _, rfl, rfl, by omega, fun x hx => ?_, .inr (by simp), by omega, by omega, by omega, by omega, by simp; omega⟩
                    rcases List.mem_append.1 hx with h | h
                    · have := a7 x h; omega
                    · simp at h; omega
                  · rw [show due m G u' = false from decide_eq_false hd, if_neg (by simp), show dueG m G u' = G from if_neg hd]
                    exact ⟨_, _, rfl, rfl, a4, a7, a8, by omega, by omega, by omega, by omega, by omega⟩)
                obtain ⟨G', gs', hG', hgs', hQ⟩ := HQ.out
                rw [hG', hgs'] at hE
                replace HQ := Lib.hid hQ
                have HE2 := Lib.hid hE
                clear hQ hG' hgs' hE hS HE
                obtain ⟨q7, cap7, hv, hl7, hm7⟩ := HE2.out.xq.form
                rw [List.length_map] at hv hl7
                obtain ⟨L, hL⟩ : ∃ L, L = gs'.length := ⟨_, rfl⟩
                rw [← hL] at hv hl7
                subst hv
                have HL := Lib.hid hL
                have hLm : (L : Int) ≤ 9223372036854775807 := by unfold maxLen at hm7; omega
                clear hL hl7 hm7
                obtain ⟨c0, c1, c2, c3, c4, c5, f2, f3, f4, f5⟩ := HE2.out.cells
                go_wp2_with fail
                clear c0 c1 c2 c3 c4 c5 f2 f3 f4 f5
                go_loopw [114] (fun i wr4 => ∃ (k g' : Nat), k ≤ L ∧ i = .int .i64 (k : Int) ∧ Hid ((g ≤ g' ∧ g' ≤ G' ∧ ∀ j x, j < k → gs'[j]? = some x → x ≤ g') ∧ Ends w.heap.size wr4 bx bs bg m g' sp G' sp u' sp u' (.slice q5 0 cap5) (.slice q7 L cap7) [] gs' ∧ StepB w.heap.size w wr4)) (fun i wr4 => L - (intOf i).toNat)
                case atStart => exact ⟨0, g, by omega, rfl, ⟨⟨Nat.le_refl _, HQ.out.1, fun j x hj => absurd hj (by omega)⟩, HE2.out, HS.out⟩⟩
                case round =>
                  obtain ⟨k4, g', hk4, rfl, hI⟩ := hrel
                  clear HE2 HS
                  by_cases hlt4 : k4 < L
                  · obtain ⟨x, hx⟩ : ∃ x, gs'[k4]? = some x := ⟨_, List.getElem?_eq_getElem (by have := HL.out; omega)⟩
                    obtain ⟨gk, off, cap8, hv, _, _, hc⟩ := hI.out.2.1.xq.at (j := k4) (x := ival x) (by simp [hx])
                    injection hv with hv1 hv2 hv3
                    subst hv1
                    clear hv2 hv3
                    replace hc : wr.cell? ⟨gk, off + k4, none⟩ = some (.int .i64 (x : Int)) := hc
                    have HX := Lib.hid hx
                    have HXB := Lib.hid (show x ≤ G' from HQ.out.2.1 x (List.mem_of_getElem? hx))
                    have hwx : IntKind.u64.wrap (x : Int) = (x : Int) := by have := HXB.out; have := HQ.out.2.2.2.2.2.2.1; have := HB.out; have := HM3.out; rw [IntKind.wrap_u64]; omega
                    clear hx
                    go_wp2_with fail
                    refine (granted_is bs m g' sp (max g' x) 0 _ x rfl HA.out.1 HM2.out (by have := hI.out.1.1; have := HA.out.2.2.1; omega) (by have := hI.out.1.2.1; have := HQ.out.2.2.2.2.2.2.1; have := HB.out; have := HM3.out; omega) (by have := HXB.out; have := HQ.out.2.2.2.2.2.2.1; have := HB.out; have := HM3.out; omega) (if_neg (by have := HXB.out; have := HQ.out.2.2.2.2.2.2.1; omega)) (if_neg (by have := HXB.out; have := HQ.out.2.2.2.2.2.2.1; omega)) _ hI.out.2.1.xs).mono ?_
                    rintro e w8 ⟨rfl, hh, hs⟩
                    have HE3 := Lib.hid (hI.out.2.1.turnS hs hh)
                    have HS3 := Lib.hid (hI.out.2.2.trans (StepB.one hs hI.out.2.1.bs0))
                    clear hh hs hc
                    go_wp2
                    go_roundw
                    case rel =>
                      refine ⟨k4 + 1, max g' x, by omega, by go_num, ⟨⟨by have := hI.out.1.1; omega, by have := hI.out.1.2.1; have := HXB.out; omega, fun j y hj hy => ?_⟩, HE3.out, HS3.out⟩⟩
                      by_cases hjk : j = k4
                      · subst hjk
                        rw [HX.out] at hy
                        cases hy
                        omega
                      · have := hI.out.1.2.2 j y (by omega) hy
                        omega
                    case measure => simp [intOf]; omega
                  · have HGG := Lib.hid (show g' = G' by
                      have h1 := hI.out.1
                      rcases HQ.out.2.2.1 with h | h
                      · have := HA.out.2.2.2.2.2.1; omega
                      · obtain ⟨j, hj, hjx⟩ := List.mem_iff_getElem.1 h
                        have := h1.2.2 j G' (by have := HL.out; omega) (by rw [List.getElem?_eq_getElem hj, hjx])
                        omega)
                    obtain ⟨l, hl⟩ : ∃ l, l = g' - sp := ⟨_, rfl⟩
                    obtain ⟨h2, hh2⟩ : ∃ h2, h2 = m / 2 := ⟨_, rfl⟩
                    have hdiv : (m : Int) / 2 = (h2 : Int) := by omega
                    have htd : (m : Int).tdiv 2 = (h2 : Int) := by rw [Int.tdiv_eq_ediv_of_nonneg (by omega)]; exact hdiv
                    have hw0 : IntKind.i64.wrap (h2 : Int) = (h2 : Int) := by have := HM3.out; rw [IntKind.wrap_i64]; omega
                    have hw2 : IntKind.i64.wrap ((h2 : Int) - 1) = (h2 : Int) - 1 := by have := HM3.out; rw [IntKind.wrap_i64]; omega
                    have t1 : ((h2 : Int) - 1 < (l : Int)) = True := by have := HGG.out; have := HQ.out.2.2.2.2.2.1; simp; omega
                    have t2 : ((1 : Int) ≤ (l : Int)) = True := by have := HGG.out; have := HQ.out.2.2.2.2.1; simp; omega
                    have t2n : 0 < l := by have := HGG.out; have := HQ.out.2.2.2.2.1; omega
                    have t2m : 1 ≤ l := t2n
                    have t1n : h2 ≤ l := by have := HGG.out; have := HQ.out.2.2.2.2.2.1; omega
                    have t1m : (h2 : Int) ≤ (l : Int) := by omega
                    have HLL := Lib.hid (show ((g' - sp : Nat) : Int) = (l : Int) by omega)
                    have HEQ := Lib.hid (show sp ≤ g' ∧ g' < 4611686018427387904 by have := hI.out.1; have := HA.out.2.2.1; have := HQ.out.2.2.2.2.2.2.1; have := HB.out; have := HM3.out; omega)
                    have huu := HU.out
                    subst huu
                    clear hl hh2
                    go_wp2_with fail
                    have HE4 := Lib.hid (hI.out.2.1.same (Step.drew _))
                    have HS4 := Lib.hid (hI.out.2.2.trans (StepB.of (Step.drew _)))
                    have k1 := And.intro HE4.out.cells.2.2.2.2.1 HE4.out.cells.2.2.2.2.2.1
                    clear hI
                    go_region_held3 (fun W => W.cell? ⟨bx, 4, none⟩ = some (.int .i64 (u' : Int)) ∧ W.cell? ⟨bx, 5, none⟩ = some (.int .i64 (u' : Int))) (first | exact k1 | exact ⟨HE4.out.cells.2.2.2.2.1, HE4.out.cells.2.2.2.2.2.1⟩)
                      (first
                        | (go_at_call 25; refine (left_is bs m g' u' (l : Int) HA.out.1 HEQ.out.1 HEQ.out.2 HLL.out _ HE4.out.xs).mono ?_; rintro e w' ⟨rfl, hh, hs⟩; replace HS4 := Lib.hid (HS4.out.trans (StepB.one hs HE4.out.bs0)); replace HE4 := Lib.hid (HE4.out.turnS hs hh); clear hh hs)
                        | (go_at_call 14; refine (wakes_any _).mono ?_; rintro e w' ⟨rfl, hs⟩; replace HS4 := Lib.hid (HS4.out.trans (StepB.of hs)); replace HE4 := Lib.hid (HE4.out.same hs); clear hs))
                    (try clear hHeld)
                    go_wp2
                    go_ret
                    exact ⟨rfl, HS4.out.nil⟩
              · have tz : ((0 : Int) < (r : Int)) = True := by simp; omega
                have tz2 : 0 < r := by omega
                have HZ := Lib.hid hz
                clear hr hz
                go_wp2_with fail
                refine (held_is bg m G sp u' (r : Int) HA.out.1 hI.out.1.2.2 (by have := HB.out; omega) (by have := HR.out; omega) _ hI.out.2.1.xg).mono ?_
                rintro e w6 ⟨rfl, hh, hs⟩
                have HE := Lib.hid (hI.out.2.1.turnG hs hh)
                have HS := Lib.hid (hI.out.2.2.trans (StepB.one hs hI.out.2.1.bg0))
                have HJ := Lib.hid hI.out.1
                clear hh hs hI
                go_wp2_with fail
                refine (does_use w.heap.size 255 5 (.inl rfl) (by omega) bx bs bg m g sp G sp u' sp u' _ v2 [] gs HA.out.1 HJ.out.2.2 (by have := HB.out; omega) (by have := HB.out; have := HJ.out; omega) _ HE.out).mono ?_
                rintro e w7 ⟨rfl, hE, hS⟩
                have HE3 := Lib.hid hE
                replace HS := Lib.hid (HS.out.trans hS)
                clear hE hS HE
                go_wp2
                go_roundw
                case rel => exact ⟨k3 + 1, u' + min 255 (sp - u'), by have := HJ.out; have := HR.out; have := HZ.out; omega, by go_num, ⟨⟨by have := HJ.out; omega, by have := HJ.out; omega, by have := HJ.out; omega⟩, HE3.out, HS.out⟩⟩
                case measure => simp [intOf]; omega
      · have b120 : ((k : Int) == 120) = true := by rw [h120]; rfl
        clear h120
        obtain ⟨b, off, rfl, hc⟩ : ∃ b off, q = some ⟨b, off, none⟩ ∧ ∀ j, j < 2 → wr.cell? ⟨b, off + (k * 2 + j), none⟩ = some (V k j) := by
          rcases HR.out with h0 | ⟨b, off, rfl, hc⟩
          · omega
          · exact ⟨b, off, rfl, fun j hj => step_cell (hi.out.step.nil) (hc k hlt j hj)⟩
        obtain ⟨x, y, v0, v1, hx, hy⟩ := HV.out k hlt
        have c0 : wr.cell? ⟨b, off + k * 2, none⟩ = some (.int .u8 (x : Int)) := (hc 0 (by omega)).trans (by rw [v0])
        have c1 : wr.cell? ⟨b, off + k * 2 + 1, none⟩ = some (.int .u8 (y : Int)) := (hc 1 (by omega)).trans (by rw [v1])
        clear hc v0 v1 hx hy hi
        go_wp2_with fail
        replace H0 := Lib.hid (H0.out.same (Step.alloc wr (.cells #[.int .u8 (x : Int), .int .u8 (y : Int)] 57)))
        clear c0 c1
        obtain ⟨g, p, G, t, u, sp, us, v1, v2, way, gs, hN, hE, hS⟩ := H0.out
        obtain ⟨m1, m2, rfl, rfl, e3, o1, o2, o3, o4, o5, q1, q2, b1, b2, b3⟩ := hN
        have HA := Lib.hid (And.intro m1 (And.intro o1 (And.intro o2 (And.intro o3 (And.intro o4 (And.intro o5 (And.intro q1 (And.intro q2 (And.intro b1 b3)))))))))
        have HI := Lib.hid (And.intro e3 (And.intro hE hS))
        clear H0 m1 m2 e3 o1 o2 o3 o4 o5 q1 q2 b1 b2 b3 hE hS
        go_loopg [] way.length (fun n wr2 => ∃ (t' : Nat) (v' : Value) (ws : List Nat), n = ws.length ∧ Hid (sp = t' + ws.sum ∧ t ≤ t' ∧ Ends w.heap.size wr2 bx bs bg m g sp G t' us sp us v' v2 ws gs ∧ StepB w.heap.size w wr2))
        case atStart => exact ⟨t, v1, way, rfl, ⟨HI.out.1, Nat.le_refl _, HI.out.2.1, HI.out.2.2⟩⟩
        case round =>
          obtain ⟨t', v', ws, rfl, hI⟩ := hrel
          clear HI
          cases ws with
          | cons x ws =>
            obtain ⟨gk, off, cap', rfl, hl, hcm, hc⟩ := hI.out.2.2.1.xw.at (j := 0) (x := ival x) rfl
            obtain ⟨L, hL⟩ : ∃ L, L = ((x :: ws).map ival).length := ⟨_, rfl⟩
            rw [← hL] at hI hl
            obtain ⟨c0, c1, c2, c3, c4, c5, f2, f3, f4, f5⟩ := hI.out.2.2.1.cells
            have hL0 : (0 : Int) < (L : Int) := by rw [hL]; simp
            clear hL hl hcm hc
            go_wp2_with fail
            refine (does_take w.heap.size 4 3 (.inl rfl) (by omega) bx bs bg m g sp G t' us sp us _ v2 (x :: ws) gs HA.out.1 (by have := hI.out.1; have := HA.out.2.2.1; have := HA.out.2.2.2.1; omega) (by have := HA.out.2.2.2.2.1; have := HA.out.2.1; have := hI.out.1; have := HM3.out; have := HA.out.2.2.2.2.2.2.2.2.1; have := hI.out.2.1; omega) _ hI.out.2.2.1).mono ?_
            rintro e w5 ⟨rfl, v'', dn, ws', hw, hpos, hE, hS⟩
            have HE := Lib.hid hE
            have HS := Lib.hid (hI.out.2.2.2.trans hS)
            have HW := Lib.hid (And.intro hw hpos)
            clear hw hpos hE hS c0 c1 c2 c3 c4 c5 f2 f3 f4 f5
            go_wp2
            go_roundg ws'.length
            case measure =>
              have h1 := congrArg List.length HW.out.1
              have h2 := HW.out.2 (by omega) (by simp)
              have h3 := List.length_pos_iff.2 h2
              simp only [List.length_append] at h1
              omega
            case rel =>
              have h1 := congrArg List.sum HW.out.1
              simp only [List.sum_append] at h1
              exact ⟨t' + dn.sum, v'', ws', rfl, ⟨by have := hI.out.1; omega, by have := hI.out.2.1; omega, HE.out, HS.out⟩⟩
          | nil =>
            obtain ⟨q5, cap5, hv, _, _⟩ := hI.out.2.2.1.xw.form
            simp only [List.map_nil, List.length_nil] at hv
            subst hv
            obtain ⟨hp, htt, hE, hS⟩ := hI.out
            simp only [List.sum_nil, Nat.add_zero] at hp
            subst hp
            have HE := Lib.hid (And.intro htt (And.intro hE hS))
            clear hI
            obtain ⟨c0, c1, c2, c3, c4, c5, f2, f3, f4, f5⟩ := hE.cells
            clear htt hE hS
            go_wp2_with fail
            clear c0 c1 c2 c3 c4 c5 f2 f3 f4 f5
            have HB := Lib.hid (show us ≤ sp ∧ sp < 100000 ∧ sp - us ≤ 256 by have := HA.out.2.1; have := HE.out.1; have := HA.out.2.2.2.2.2.2.2.2.1; have := HA.out.2.2.1; have := HA.out.2.2.2.1; have := HA.out.2.2.2.2.1; have := HM3.out; omega)
            go_loopw [13] (fun i wr3 => ∃ (k u' : Nat), k ≤ 2 ∧ i = .int .i64 (k : Int) ∧ Hid ((sp - u' ≤ 256 - 255 * k ∧ us ≤ u' ∧ u' ≤ sp) ∧ Ends w.heap.size wr3 bx bs bg m g sp G sp u' sp u' (.slice q5 0 cap5) v2 [] gs ∧ StepB w.heap.size w wr3)) (fun i wr3 => 9 - (intOf i).toNat)
            case atStart => exact ⟨0, us, by omega, rfl, ⟨⟨by have := HB.out; omega, Nat.le_refl _, HB.out.1⟩, HE.out.2.1, HE.out.2.2⟩⟩
            case round =>
              obtain ⟨k3, u', hk3, rfl, hI⟩ := hrel
              clear HE
              obtain ⟨r, hr⟩ : ∃ r, r = sp - u' := ⟨_, rfl⟩
              have HR := Lib.hid hr
              have b9 : ((k3 : Int) == 9) = false := by simp; omega
              by_cases hz : r = 0
              · have tz : ((0 : Int) < (r : Int)) = False := by simp; omega
                have tz2 : (0 < r) = False := by simp; omega
                have HZ := Lib.hid hz
                clear hr hz
                go_wp2_with fail
                refine (held_is bg m G sp u' (r : Int) HA.out.1 hI.out.1.2.2 (by have := HB.out; omega) (by have := HR.out; omega) _ hI.out.2.1.xg).mono ?_
                rintro e w6 ⟨rfl, hh, hs⟩
                have HE := Lib.hid (hI.out.2.1.turnG hs hh)
                have HS := Lib.hid (hI.out.2.2.trans (StepB.one hs hI.out.2.1.bg0))
                have HU := Lib.hid (show u' = sp by have := HR.out; have := HZ.out; have := hI.out.1.2.2; omega)
                clear hh hs hI
                go_wp2_with fail
                have hc7 := does_grant w.heap.size 0 7 rfl (by omega) bx bs bg m g sp G sp u' sp u' _ v2 [] gs HA.out.1 HM2.out (by have := HA.out.2.2.2.2.1; have := HU.out; have := HB.out; omega) (by have := HU.out; have := HB.out; omega) (by have := HA.out.2.2.2.2.2.2.2.2.2; omega) _ HE.out
                have hc8 : Calls Try.prog 27 #[.pointer (some ⟨bx, 0, none⟩), .agg #[.int .u8 7, .int .u8 0]] w6 _ := hc7
                clear hc7
                refine hc8.mono ?_
                clear hc8
                rintro e w7 ⟨rfl, v3, hE, hS⟩
                replace HS := Lib.hid (HS.out.trans hS)
                have HQ := Lib.hid (show ∃ G' gs', dueG m G u' = G' ∧ (if due m G u' = true then gs ++ [dueN m G u'] else gs) = gs' ∧ g ≤ G' ∧ (∀ x ∈ gs', x ≤ G') ∧ (G' = m ∨ G' ∈ gs') ∧ sp ≤ G' ∧ 1 ≤ G' - sp ∧ m / 2 < G' - sp + 1 ∧ G' ≤ sp + m ∧ gs'.length ≤ 122 by
                  obtain ⟨a1, a2, a3, a4, a5, a6, a7, a8, a9, a10⟩ := HA.out
                  have h1 := HU.out
                  have h2 := HB.out
                  subst h1
                  by_cases hd : max (m / 2) 1 ≤ u' + m - G
                  · rw [show due m G u' = true from decide_eq_true hd, if_pos rfl, show dueN m G u' = u' + m from if_pos hd, show dueG m G u' = u' + m from if_pos hd]
                    refine ⟨_, _, rfl, rfl, by omega, fun x hx => ?_, .inr (by simp), by omega, by omega, by omega, by omega, by simp; omega⟩
                    rcases List.mem_append.1 hx with h | h
                    · have := a7 x h; omega
                    · simp at h; omega
                  · rw [show due m G u' = false from decide_eq_false hd, if_neg (by simp), show dueG m G u' = G from if_neg hd]
                    exact ⟨_, _, rfl, rfl, a4, a7, a8, by omega, by omega, by omega, by omega, by omega⟩)
                obtain ⟨G', gs', hG', hgs', hQ⟩ := HQ.out
                rw [hG', hgs'] at hE
                replace HQ := Lib.hid hQ
                have HE2 := Lib.hid hE
                clear hQ hG' hgs' hE hS HE
                obtain ⟨q7, cap7, hv, hl7, hm7⟩ := HE2.out.xq.form
                rw [List.length_map] at hv hl7
                obtain ⟨L, hL⟩ : ∃ L, L = gs'.length := ⟨_, rfl⟩
                rw [← hL] at hv hl7
                subst hv
                have HL := Lib.hid hL
                have hLm : (L : Int) ≤ 9223372036854775807 := by unfold maxLen at hm7; omega
                clear hL hl7 hm7
                obtain ⟨c0, c1, c2, c3, c4, c5, f2, f3, f4, f5⟩ := HE2.out.cells
                go_wp2_with fail
                clear c0 c1 c2 c3 c4 c5 f2 f3 f4 f5
                go_loopw [114] (fun i wr4 => ∃ (k g' : Nat), k ≤ L ∧ i = .int .i64 (k : Int) ∧ Hid ((g ≤ g' ∧ g' ≤ G' ∧ ∀ j x, j < k → gs'[j]? = some x → x ≤ g') ∧ Ends w.heap.size wr4 bx bs bg m g' sp G' sp u' sp u' (.slice q5 0 cap5) (.slice q7 L cap7) [] gs' ∧ StepB w.heap.size w wr4)) (fun i wr4 => L - (intOf i).toNat)
                case atStart => exact ⟨0, g, by omega, rfl, ⟨⟨Nat.le_refl _, HQ.out.1, fun j x hj => absurd hj (by omega)⟩, HE2.out, HS.out⟩⟩
                case round =>
                  obtain ⟨k4, g', hk4, rfl, hI⟩ := hrel
                  clear HE2 HS
                  by_cases hlt4 : k4 < L
                  · obtain ⟨x, hx⟩ : ∃ x, gs'[k4]? = some x := ⟨_, List.getElem?_eq_getElem (by have := HL.out; omega)⟩
                    obtain ⟨gk, off, cap8, hv, _, _, hc⟩ := hI.out.2.1.xq.at (j := k4) (x := ival x) (by simp [hx])
                    injection hv with hv1 hv2 hv3
                    subst hv1
                    clear hv2 hv3
                    replace hc : wr.cell? ⟨gk, off + k4, none⟩ = some (.int .i64 (x : Int)) := hc
                    have HX := Lib.hid hx
                    have HXB := Lib.hid (show x ≤ G' from HQ.out.2.1 x (List.mem_of_getElem? hx))
                    have hwx : IntKind.u64.wrap (x : Int) = (x : Int) := by have := HXB.out; have := HQ.out.2.2.2.2.2.2.1; have := HB.out; have := HM3.out; rw [IntKind.wrap_u64]; omega
                    clear hx
                    go_wp2_with fail
                    refine (granted_is bs m g' sp (max g' x) 0 _ x rfl HA.out.1 HM2.out (by have := hI.out.1.1; have := HA.out.2.2.1; omega) (by have := hI.out.1.2.1; have := HQ.out.2.2.2.2.2.2.1; have := HB.out; have := HM3.out; omega) (by have := HXB.out; have := HQ.out.2.2.2.2.2.2.1; have := HB.out; have := HM3.out; omega) (if_neg (by have := HXB.out; have := HQ.out.2.2.2.2.2.2.1; omega)) (if_neg (by have := HXB.out; have := HQ.out.2.2.2.2.2.2.1; omega)) _ hI.out.2.1.xs).mono ?_
                    rintro e w8 ⟨rfl, hh, hs⟩
                    have HE3 := Lib.hid (hI.out.2.1.turnS hs hh)
                    have HS3 := Lib.hid (hI.out.2.2.trans (StepB.one hs hI.out.2.1.bs0))
                    clear hh hs hc
                    go_wp2
                    go_roundw
                    case rel =>
                      refine ⟨k4 + 1, max g' x, by omega, by go_num, ⟨⟨by have := hI.out.1.1; omega, by have := hI.out.1.2.1; have := HXB.out; omega, fun j y hj hy => ?_⟩, HE3.out, HS3.out⟩⟩
                      by_cases hjk : j = k4
                      · subst hjk
                        rw [HX.out] at hy
                        cases hy
                        omega
                      · have := hI.out.1.2.2 j y (by omega) hy
                        omega
                    case measure => simp [intOf]; omega
                  · have HGG := Lib.hid (show g' = G' by
                      have h1 := hI.out.1
                      rcases HQ.out.2.2.1 with h | h
                      · have := HA.out.2.2.2.2.2.1; omega
                      · obtain ⟨j, hj, hjx⟩ := List.mem_iff_getElem.1 h
                        have := h1.2.2 j G' (by have := HL.out; omega) (by rw [List.getElem?_eq_getElem hj, hjx])
                        omega)
                    obtain ⟨l, hl⟩ : ∃ l, l = g' - sp := ⟨_, rfl⟩
                    obtain ⟨h2, hh2⟩ : ∃ h2, h2 = m / 2 := ⟨_, rfl⟩
                    have hdiv : (m : Int) / 2 = (h2 : Int) := by omega
                    have htd : (m : Int).tdiv 2 = (h2 : Int) := by rw [Int.tdiv_eq_ediv_of_nonneg (by omega)]; exact hdiv
                    have hw0 : IntKind.i64.wrap (h2 : Int) = (h2 : Int) := by have := HM3.out; rw [IntKind.wrap_i64]; omega
                    have hw2 : IntKind.i64.wrap ((h2 : Int) - 1) = (h2 : Int) - 1 := by have := HM3.out; rw [IntKind.wrap_i64]; omega
                    have t1 : ((h2 : Int) - 1 < (l : Int)) = True := by have := HGG.out; have := HQ.out.2.2.2.2.2.1; simp; omega
                    have t2 : ((1 : Int) ≤ (l : Int)) = True := by have := HGG.out; have := HQ.out.2.2.2.2.1; simp; omega
                    have t2n : 0 < l := by have := HGG.out; have := HQ.out.2.2.2.2.1; omega
                    have t2m : 1 ≤ l := t2n
                    have t1n : h2 ≤ l := by have := HGG.out; have := HQ.out.2.2.2.2.2.1; omega
                    have t1m : (h2 : Int) ≤ (l : Int) := by omega
                    have HLL := Lib.hid (show ((g' - sp : Nat) : Int) = (l : Int) by omega)
                    have HEQ := Lib.hid (show sp ≤ g' ∧ g' < 4611686018427387904 by have := hI.out.1; have := HA.out.2.2.1; have := HQ.out.2.2.2.2.2.2.1; have := HB.out; have := HM3.out; omega)
                    have huu := HU.out
                    subst huu
                    clear hl hh2
                    go_wp2_with fail
                    have HE4 := Lib.hid (hI.out.2.1.same (Step.drew _))
                    have HS4 := Lib.hid (hI.out.2.2.trans (StepB.of (Step.drew _)))
                    have k1 := And.intro HE4.out.cells.2.2.2.2.1 HE4.out.cells.2.2.2.2.2.1
                    clear hI
                    go_region_held3 (fun W => W.cell? ⟨bx, 4, none⟩ = some (.int .i64 (u' : Int)) ∧ W.cell? ⟨bx, 5, none⟩ = some (.int .i64 (u' : Int))) (first | exact k1 | exact ⟨HE4.out.cells.2.2.2.2.1, HE4.out.cells.2.2.2.2.2.1⟩)
                      (first
                        | (go_at_call 25; refine (left_is bs m g' u' (l : Int) HA.out.1 HEQ.out.1 HEQ.out.2 HLL.out _ HE4.out.xs).mono ?_; rintro e w' ⟨rfl, hh, hs⟩; replace HS4 := Lib.hid (HS4.out.trans (StepB.one hs HE4.out.bs0)); replace HE4 := Lib.hid (HE4.out.turnS hs hh); clear hh hs)
                        | (go_at_call 14; refine (wakes_any _).mono ?_; rintro e w' ⟨rfl, hs⟩; replace HS4 := Lib.hid (HS4.out.trans (StepB.of hs)); replace HE4 := Lib.hid (HE4.out.same hs); clear hs))
                    (try clear hHeld)
                    go_wp2
                    go_ret
                    exact ⟨rfl, HS4.out.nil⟩
              · have tz : ((0 : Int) < (r : Int)) = True := by simp; omega
                have tz2 : 0 < r := by omega
                have HZ := Lib.hid hz
                clear hr hz
                go_wp2_with fail
                refine (held_is bg m G sp u' (r : Int) HA.out.1 hI.out.1.2.2 (by have := HB.out; omega) (by have := HR.out; omega) _ hI.out.2.1.xg).mono ?_
                rintro e w6 ⟨rfl, hh, hs⟩
                have HE := Lib.hid (hI.out.2.1.turnG hs hh)
                have HS := Lib.hid (hI.out.2.2.trans (StepB.one hs hI.out.2.1.bg0))
                have HJ := Lib.hid hI.out.1
                clear hh hs hI
                go_wp2_with fail
                refine (does_use w.heap.size 255 5 (.inl rfl) (by omega) bx bs bg m g sp G sp u' sp u' _ v2 [] gs HA.out.1 HJ.out.2.2 (by have := HB.out; omega) (by have := HB.out; have := HJ.out; omega) _ HE.out).mono ?_
                rintro e w7 ⟨rfl, hE, hS⟩
                have HE3 := Lib.hid hE
                replace HS := Lib.hid (HS.out.trans hS)
                clear hE hS HE
                go_wp2
                go_roundw
                case rel => exact ⟨k3 + 1, u' + min 255 (sp - u'), by have := HJ.out; have := HR.out; have := HZ.out; omega, by go_num, ⟨⟨by have := HJ.out; omega, by have := HJ.out; omega, by have := HJ.out; omega⟩, HE3.out, HS.out⟩⟩
                case measure => simp [intOf]; omega
end Go.Proofs.Ytnomnhlfenhjdaa
