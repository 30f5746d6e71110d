/- credit: what the walk of CreditPlays carries. No statement is proved here; nothing is assumed. -/
import Derived.Test.YtnomnhlfenhjdaaCreF
import Derived.Test.YtnomnhlfenhjdaaOpen
import Derived.OwnWalkIn
import Derived.TacticsInMore
import Derived.LoopNIn
import Derived.LoopIn
import Derived.Deep.QuietTactic
import Derived.BigQuiet
import Derived.Maps.OwnIn
import Derived.Deep.RegionHeld3
import Derived.Laws.Bits64
namespace Go.Proofs.Ytnomnhlfenhjdaa
open Go.RowKit Go.Shelf
set_option linter.unusedVariables false
attribute [local go_sem] Oper.semAt_some

/-- The two ends and the document's two ends, k calls on. -/
structure Four (k : Nat) (W : World) (bs bv bg bw m g p G t u : Nat) : Prop where
  xs : SpAt W bs m g p
  xv : RsAt W bv m g p
  xg : GvAt W bg m G t u
  xw : RgAt W bw m G t u
  h1 : p ≤ g
  h2 : g ≤ p + m
  h3 : u ≤ t
  h4 : t ≤ G
  h5 : G ≤ u + m
  h6 : p ≤ 8192 * k
  h7 : u ≤ 8192 * k
theorem Four.step {k : Nat} {W W' : World} {bs bv bg bw m g p G t u : Nat} (h : Four k W bs bv bg bw m g p G t u) (hs : Step [] W W') : Four k W' bs bv bg bw m g p G t u :=
  ⟨obj_step h.xs hs (by simp), obj_step h.xv hs (by simp), obj_step h.xg hs (by simp), obj_step h.xw hs (by simp), h.h1, h.h2, h.h3, h.h4, h.h5, h.h6, h.h7⟩
structure Apart (c0 c bs bv bg bw : Nat) : Prop where
  n1 : bs ≠ bv
  n2 : bs ≠ bg
  n3 : bs ≠ bw
  n4 : bv ≠ bg
  n5 : bv ≠ bw
  n6 : bg ≠ bw
  l1 : bs < c
  l2 : bv < c
  l3 : bg < c
  l4 : bw < c
  o1 : c0 ≤ bs
  o2 : c0 ≤ bv
  o3 : c0 ≤ bg
  o4 : c0 ≤ bw

theorem keepc {W W' : World} {b : Nat} {a : Addr} {v : Value} (hs : Step [b] W W') (hne : a.block ≠ b) (h : W.cell? a = some v) : W'.cell? a = some v := by
  have hlt := World.block_lt_of_cell? _ _ h
  have := hs.same a.block hlt (by simp; exact hne)
  unfold World.cell? at h ⊢
  rw [this]; exact h

theorem four_of {a b c d : Nat} {B : Nat} {W0 W W' : World} {S : List Nat} (h : Step [] W0 W) (k : Step S W W') (hS : ∀ i ∈ S, W0.heap.size ≤ i) : Step [] W0 W' :=
  h.trans' k (fun _ h _ => h) (fun i hi hl => by have := hS i hi; omega)

theorem paid_le {n : Int} {p g : Nat} (h : p ≤ g) : paid n p (g - p) ≤ g := by unfold paid; split <;> (try split) <;> omega
theorem paid_ge {n : Int} {p l : Nat} : p ≤ paid n p l := by unfold paid; split <;> (try split) <;> omega
theorem lateG_ge {m g p T : Nat} : g ≤ lateG m g p T := by unfold lateG; split <;> omega
theorem lateG_le {m g p T : Nat} (h : g ≤ p + m) : lateG m g p T ≤ p + m := by unfold lateG; split <;> omega
theorem dueG_ge {m g u : Nat} (h : g ≤ u + m) : g ≤ dueG m g u := by unfold dueG; split <;> omega
theorem dueG_le {m g u : Nat} (h : g ≤ u + m) : dueG m g u ≤ u + m := by unfold dueG; split <;> omega
theorem dueN_le {m g u : Nat} : dueN m g u ≤ u + m := by unfold dueN; split <;> omega
theorem left_q (b m g p : Nat) (hm : 1 ≤ m) (hp : p ≤ g) (hg : g < 4611686018427387904) (w : World) (h : SpAt w b m g p) :
    Calls Try.prog 25 #[.pointer (some ⟨b, 0, none⟩)] w fun e w' => e = .returned (.int .i64 ((g - p : Nat) : Int)) ∧ ∃ n, w' = w.drewN n := left_any b m g p hm hp hg w h

theorem notin {a b : Nat} (h : a ≠ b) : a ∉ [b] := by simp; exact h
set_option maxRecDepth 100000 in
set_option maxHeartbeats 4000000 in
theorem plays_walk (m : Nat) (hm1 : 1 ≤ m) (hm2 : m ≤ 8192) (q : Option Addr) (N cap : Nat) (hN : N ≤ cap) (hcap : cap ≤ maxLen) (V : Nat → Nat → Value) (w : World) (hrow : RowOf w q N 3 V)
    (hV : ∀ i, i < N → ∃ (x y : Int) (z : Nat), V i 0 = .int .i64 x ∧ V i 1 = .int .i64 y ∧ V i 2 = .int .u64 (z : Int) ∧ y < 9223372036854775808 ∧ z < 18446744073709551616) :
    Calls Try.prog 3 #[.int .i64 (m : Int), .slice q N cap] w fun e w' => e = .returned (.bool true) ∧ Step [] w w' := by
  have HM1 := Lib.hid hm1
  have HM2 := Lib.hid hm2
  have HV := Lib.hid hV
  have HR := Lib.hid hrow
  have hNm : (N : Int) ≤ 9223372036854775807 := by unfold maxLen at hcap; omega
  clear hm1 hm2 hV hrow hN hcap
  go_enter Try.func3, Try.ntmps3
  go_wp2_with fail
  refine (newSp_ok m HM1.out HM2.out w).mono ?_
  rintro e w1 ⟨bs, rfl, hbs, hsp, hs1⟩
  have K1 := Lib.hid (And.intro hbs (And.intro hsp hs1))
  clear hbs hsp hs1
  go_wp2_with fail
  refine (newGv_ok m HM1.out HM2.out w1).mono ?_
  rintro e w2 ⟨bg, rfl, hbg, hgv, hs2⟩
  have K2 := Lib.hid (And.intro hbg (And.intro hgv hs2))
  clear hbg hgv hs2
  go_wp2_with (go_at_call 13; refine (may_ok m HM1.out HM2.out _).mono ?_; rintro e w' ⟨rfl, rfl⟩)
  have hF : Four 0 ((w2.alloc (.cells #[.int .i64 (m : Int), .int .i64 (m : Int), .int .i64 0] 34)).alloc (.cells #[.int .i64 (m : Int), .int .i64 (m : Int), .int .i64 0, .int .i64 0] 37)) bs w2.heap.size bg (w2.heap.size + 1) m m 0 m 0 0 ∧
      Step [] w ((w2.alloc (.cells #[.int .i64 (m : Int), .int .i64 (m : Int), .int .i64 0] 34)).alloc (.cells #[.int .i64 (m : Int), .int .i64 (m : Int), .int .i64 0, .int .i64 0] 37)) ∧
      Apart w.heap.size (w2.heap.size + 1 + 1) bs w2.heap.size bg (w2.heap.size + 1) ∧ w2.heap.size + 1 + 1 ≤ ((w2.alloc (.cells #[.int .i64 (m : Int), .int .i64 (m : Int), .int .i64 0] 34)).alloc (.cells #[.int .i64 (m : Int), .int .i64 (m : Int), .int .i64 0, .int .i64 0] 37)).heap.size := by
    obtain ⟨a1, a2, a3⟩ := K1.out
    obtain ⟨a4, a5, a6⟩ := K2.out
    have l1 := heap_lt a2
    have l2 := heap_lt a5
    have s1 := a3.size
    have s2 := a6.size
    have sA : ∀ o o' : Obj, Step [] w2 ((w2.alloc o).alloc o') := fun o o' => (Step.alloc _ _).trans (Step.alloc _ _)
    refine ⟨⟨obj_step (obj_step a2 a6 (by simp)) (sA _ _) (by simp), ?_, obj_step a5 (sA _ _) (by simp), ?_, by omega, by omega, by omega, by omega, by omega, by omega, by omega⟩, (a3.trans a6).trans (sA _ _), ⟨by omega, by omega, by omega, by omega, by omega, by omega, by omega, by omega, by omega, by omega, by omega, by omega, by omega, by omega⟩, by simp⟩
    · unfold RsAt rsObj; simp only [heap_alloc_get, World.size_alloc]; rw [if_neg (by omega), if_pos trivial]; rfl
    · unfold RgAt rgObj; simp only [heap_alloc_get, World.size_alloc]; rw [if_pos trivial]; rfl
  clear K1 K2
  generalize (w2.alloc (.cells #[.int .i64 (m : Int), .int .i64 (m : Int), .int .i64 0] 34)).alloc (.cells #[.int .i64 (m : Int), .int .i64 (m : Int), .int .i64 0, .int .i64 0] 37) = w3 at *
  generalize w2.heap.size = bv at *
  have HF := Lib.hid (And.intro hF.1 hF.2.1)
  have HA := Lib.hid hF.2.2
  clear hF
  go_loopw [64] (fun i wr => ∃ k g p G t u : Nat, k ≤ N ∧ k ≤ 80 ∧ i = .int .i64 (k : Int) ∧ Hid ((Four k wr bs bv bg (bv + 1) m g p G t u ∧ Step [] w wr) ∧ bv + 1 + 1 ≤ wr.heap.size)) (fun i wr => N - (intOf i).toNat)
  case atStart => exact ⟨0, _, _, _, _, _, by omega, by omega, rfl, HF.out, HA.out.2⟩
  case round =>
    obtain ⟨k, g, p, G, t, u, hk, hk8, rfl, hi⟩ := hrel
    clear HF
    by_cases hlt : k < N
    · have hrow : ∃ b off, q = some ⟨b, off, none⟩ ∧ ∀ j, j < 3 → wr.cell? ⟨b, off + (k * 3 + j), none⟩ = some (V k j) := by
        rcases HR.out with h0 | ⟨b, off, rfl, hc⟩
        · omega
        · exact ⟨b, off, rfl, fun j hj => step_cell hi.out.1.2 (hc k hlt j hj)⟩
      obtain ⟨x, y, z, v0, v1, v2, hy, hz⟩ := HV.out k hlt
      obtain ⟨b, off, rfl, hc⟩ := hrow
      have c0 : wr.cell? ⟨b, off + k * 3, none⟩ = some (.int .i64 x) := (hc 0 (by omega)).trans (by rw [v0])
      have c1 : wr.cell? ⟨b, off + k * 3 + 1, none⟩ = some (.int .i64 y) := (hc 1 (by omega)).trans (by rw [v1])
      have c2 : wr.cell? ⟨b, off + k * 3 + 2, none⟩ = some (.int .u64 (z : Int)) := (hc 2 (by omega)).trans (by rw [v2])
      have HY9 := Lib.hid hy
      have HZ9 := Lib.hid hz
      clear hc v0 v1 v2 hy hz
      have hbnd : g < 4611686018427387904 ∧ G < 4611686018427387904 ∧ u < 4611686018427387904 ∧ t < 4611686018427387904 ∧ p < 4611686018427387904 := by
        obtain ⟨⟨_, _, _, _, a1, a2, a3, a4, a5, a6, a7⟩, _⟩ := hi.out.1; have := HM2.out; omega
      obtain ⟨hF, hst⟩ := hi.out.1
      have hcb := hi.out.2
      obtain ⟨b1, b2, b3, b4, b5⟩ := hbnd
      have HB1 := Lib.hid b1
      have HB2 := Lib.hid b2
      have HB3 := Lib.hid b3
      have HB4 := Lib.hid b4
      have HB5 := Lib.hid b5
      have hc0 : (wr.alloc (.cells #[.int .i64 x, .int .i64 y, .int .u64 (z : Int)] 40)).heap[wr.heap.size]? = some (.cells #[.int .i64 x, .int .i64 y, .int .u64 (z : Int)] 40) := by rw [heap_alloc_get, if_pos rfl]
      have hF1 := hF.step (W' := wr.alloc (.cells #[.int .i64 x, .int .i64 y, .int .u64 (z : Int)] 40)) (Step.alloc _ _)
      have hst1 : Step [] w (wr.alloc (.cells #[.int .i64 x, .int .i64 y, .int .u64 (z : Int)] 40)) := hst.trans (Step.alloc _ _)
      have HF1 := Lib.hid hF1
      have HST1 := Lib.hid hst1
      have HC0 := Lib.hid hc0
      have HCB := Lib.hid hcb
      have HSZ := Lib.hid (show bv + 1 + 1 ≤ (wr.alloc (.cells #[.int .i64 x, .int .i64 y, .int .u64 (z : Int)] 40)).heap.size by simp; omega)
      clear b1 b2 b3 b4 b5 hF hst hcb hc0 hF1 hst1 hi
      by_cases h80 : k = 80
      · subst h80
        have b80 : (((80 : Nat) : Int) == 80) = true := by simp
        go_wp2_with (go_at_call 14; refine (wakes_any _).mono ?_; rintro e w8 ⟨rfl, hs8⟩; have HS8 := Lib.hid hs8; clear hs8)
        go_ret
        exact ⟨rfl, HST1.out.trans HS8.out⟩
      · have b80 : ((k : Int) == 80) = false := by simp; omega
        have hcase : x = 0 ∨ x = 1 ∨ x = 2 ∨ x = 3 ∨ x = 4 ∨ x = 5 ∨ x = 6 ∨ x = 7 ∨ ((x == 0) = false ∧ (x == 1) = false ∧ (x == 2) = false ∧ (x == 3) = false ∧ (x == 4) = false ∧ (x == 5) = false ∧ (x == 6) = false ∧ (x == 7) = false) := by simp; omega
        rcases hcase with rfl | rfl | rfl | rfl | rfl | rfl | rfl | rfl | ⟨x0, x1, x2, x3, x4, x5, x6, x7⟩
        · go_wp2_with fail
          generalize wr.alloc (.cells #[.int .i64 0, .int .i64 y, .int .u64 (z : Int)] 40) = W1 at *
          have hne := HCB.out
          generalize wr.heap.size = cb at *
          obtain ⟨n1, n2, n3, n4, n5, n6, l1, l2, l3, l4, o1, o2, o3, o4⟩ := HA.out.1
          have Es := Lib.hid (show cb ≠ bs by omega)
          have Ev := Lib.hid (show cb ≠ bv by omega)
          have Eg := Lib.hid (show cb ≠ bg by omega)
          have Ew := Lib.hid (show cb ≠ (bv + 1) by omega)
          have NN := Lib.hid (show (bs ≠ bv ∧ bs ≠ bg ∧ bs ≠ bv + 1) ∧ (bv ≠ bs ∧ bv ≠ bg ∧ bv ≠ bv + 1) ∧ (bg ≠ bs ∧ bg ≠ bv ∧ bg ≠ bv + 1) ∧ (bv + 1 ≠ bs ∧ bv + 1 ≠ bv ∧ bv + 1 ≠ bg) by omega)
          have OO := Lib.hid (show w.heap.size ≤ bs ∧ w.heap.size ≤ bv ∧ w.heap.size ≤ bg ∧ w.heap.size ≤ bv + 1 by omega)
          clear n1 n2 n3 n4 n5 n6 l1 l2 l3 l4 o1 o2 o3 o4 hne
          have k1 : W1.drew.cell? ⟨cb, 1, none⟩ = some (.int .i64 y) := cells_cell HC0.out rfl
          have HX := Lib.hid (HF1.out.step (Step.drew W1)).xs
          have HY := Lib.hid (HF1.out.step (Step.drew W1)).xv
          have HZ := Lib.hid (HF1.out.step (Step.drew W1)).xg
          have HQ := Lib.hid (HF1.out.step (Step.drew W1)).xw
          have HST := Lib.hid (HST1.out.trans (Step.drew W1))
          have HSZ := Lib.hid (show bv + 1 + 1 ≤ W1.drew.heap.size from HSZ.out)
          have FB := Lib.hid (show (paid y p (g - p)) ≤ g ∧ g ≤ (paid y p (g - p)) + m ∧ u ≤ t ∧ t ≤ G ∧ G ≤ u + m ∧ (paid y p (g - p)) ≤ 8192 * (k + 1) ∧ u ≤ 8192 * (k + 1) by obtain ⟨_, _, _, _, a1, a2, a3, a4, a5, a6, a7⟩ := HF1.out; have := HM2.out; have := @paid_le y p g a1; have := @paid_ge y p (g - p); omega)
          go_region_held3 (fun W => W.cell? ⟨cb, 1, none⟩ = some (.int .i64 y)) (first | exact k1 | exact keepc hs Es.out (by assumption) | exact keepc hs Ev.out (by assumption))
            (first | (go_at_call 15; refine (spend_any bs m g p y HY9.out HM1.out HF1.out.h1 HB1.out _ HX.out).mono ?_; rintro e w' ⟨rfl, hh, hs⟩; replace HX := Lib.hid hh; replace HY := Lib.hid (obj_step HY.out hs (notin NN.out.2.1.1)); replace HZ := Lib.hid (obj_step HZ.out hs (notin NN.out.2.2.1.1)); replace HQ := Lib.hid (obj_step HQ.out hs (notin NN.out.2.2.2.1)); replace HST := Lib.hid (two_of (bg := 0) HST.out OO.out.1 hs); replace HSZ := Lib.hid (Nat.le_trans HSZ.out hs.size); clear hh) | (go_at_call 16; refine (refSpend_any bv m g p y HY9.out HF1.out.h1 HB1.out _ HY.out).mono ?_; rintro e w' ⟨rfl, hh, hs⟩; replace HX := Lib.hid (obj_step HX.out hs (notin NN.out.1.1)); replace HY := Lib.hid hh; replace HZ := Lib.hid (obj_step HZ.out hs (notin NN.out.2.2.1.2.1)); replace HQ := Lib.hid (obj_step HQ.out hs (notin NN.out.2.2.2.2.1)); replace HST := Lib.hid (two_of (bg := 0) HST.out OO.out.2.1 hs); replace HSZ := Lib.hid (Nat.le_trans HSZ.out hs.size); clear hh))
          (try clear hs)
          (try clear hHeld)
          have hF2 : Four (k + 1) _ bs bv bg (bv + 1) m g (paid y p (g - p)) G t u := ⟨HX.out, HY.out, HZ.out, HQ.out, FB.out.1, FB.out.2.1, FB.out.2.2.1, FB.out.2.2.2.1, FB.out.2.2.2.2.1, FB.out.2.2.2.2.2.1, FB.out.2.2.2.2.2.2⟩
          have HF2 := Lib.hid hF2
          clear hF2 FB
          generalize (paid y p (g - p)) = p2 at *
          have hw1 : IntKind.i64.wrap ((g : Int) - (p2 : Int)) = ((g - p2 : Nat) : Int) := by obtain ⟨_, _, _, _, a1, a2, a3, a4, a5, a6, a7⟩ := HF2.out; have := HM2.out; rw [IntKind.wrap_i64]; omega
          have hw2 : IntKind.i64.wrap ((t : Int) - (u : Int)) = ((t - u : Nat) : Int) := by obtain ⟨_, _, _, _, a1, a2, a3, a4, a5, a6, a7⟩ := HF2.out; have := HM2.out; rw [IntKind.wrap_i64]; omega
          obtain ⟨d0, d1, d2, _, _⟩ := rs_cells HF2.out.xv
          obtain ⟨f0, f1, f2, f3, _, _, _⟩ := rg_cells HF2.out.xw
          have LG := Lib.hid (show g < 4611686018427387904 by obtain ⟨_, _, _, _, a1, a2, a3, a4, a5, a6, a7⟩ := HF2.out; have := HM2.out; omega)
          have LT := Lib.hid (show t < 4611686018427387904 by obtain ⟨_, _, _, _, a1, a2, a3, a4, a5, a6, a7⟩ := HF2.out; have := HM2.out; omega)
          clear HX HY HZ HQ
          go_wp2_with fail
          go_quiet ((first | (go_at_call 25; exact Calls.quiet_of (left_q bs m g p2 HM1.out HF2.out.h1 LG.out _ HF2.out.xs)) | (go_at_call 26; exact Calls.quiet_of (held_any bg m G t u HM1.out HF2.out.h3 LT.out _ HF2.out.xg))))
          go_wp2
          go_roundw
          case rel => exact ⟨k + 1, g, p2, G, t, u, by omega, by omega, by go_num, ⟨HF2.out.step (Step.drewN _ _), HST.out.trans (Step.drewN _ _)⟩, HSZ.out⟩
          case measure => simp [intOf]; omega
        · go_wp2_with fail
          generalize wr.alloc (.cells #[.int .i64 1, .int .i64 y, .int .u64 (z : Int)] 40) = W1 at *
          have hne := HCB.out
          generalize wr.heap.size = cb at *
          obtain ⟨n1, n2, n3, n4, n5, n6, l1, l2, l3, l4, o1, o2, o3, o4⟩ := HA.out.1
          have Es := Lib.hid (show cb ≠ bs by omega)
          have Ev := Lib.hid (show cb ≠ bv by omega)
          have Eg := Lib.hid (show cb ≠ bg by omega)
          have Ew := Lib.hid (show cb ≠ (bv + 1) by omega)
          have NN := Lib.hid (show (bs ≠ bv ∧ bs ≠ bg ∧ bs ≠ bv + 1) ∧ (bv ≠ bs ∧ bv ≠ bg ∧ bv ≠ bv + 1) ∧ (bg ≠ bs ∧ bg ≠ bv ∧ bg ≠ bv + 1) ∧ (bv + 1 ≠ bs ∧ bv + 1 ≠ bv ∧ bv + 1 ≠ bg) by omega)
          have OO := Lib.hid (show w.heap.size ≤ bs ∧ w.heap.size ≤ bv ∧ w.heap.size ≤ bg ∧ w.heap.size ≤ bv + 1 by omega)
          clear n1 n2 n3 n4 n5 n6 l1 l2 l3 l4 o1 o2 o3 o4 hne
          have k1 : W1.drew.cell? ⟨cb, 1, none⟩ = some (.int .i64 y) := cells_cell HC0.out rfl
          have HX := Lib.hid (HF1.out.step (Step.drew W1)).xs
          have HY := Lib.hid (HF1.out.step (Step.drew W1)).xv
          have HZ := Lib.hid (HF1.out.step (Step.drew W1)).xg
          have HQ := Lib.hid (HF1.out.step (Step.drew W1)).xw
          have HST := Lib.hid (HST1.out.trans (Step.drew W1))
          have HSZ := Lib.hid (show bv + 1 + 1 ≤ W1.drew.heap.size from HSZ.out)
          have FB := Lib.hid (show (paid y p (g - p)) ≤ g ∧ g ≤ (paid y p (g - p)) + m ∧ u ≤ t ∧ t ≤ G ∧ G ≤ u + m ∧ (paid y p (g - p)) ≤ 8192 * (k + 1) ∧ u ≤ 8192 * (k + 1) by obtain ⟨_, _, _, _, a1, a2, a3, a4, a5, a6, a7⟩ := HF1.out; have := HM2.out; have := @paid_le y p g a1; have := @paid_ge y p (g - p); omega)
          go_region_held3 (fun W => W.cell? ⟨cb, 1, none⟩ = some (.int .i64 y)) (first | exact k1 | exact keepc hs Es.out (by assumption) | exact keepc hs Ev.out (by assumption))
            (first | (go_at_call 15; refine (spend_any bs m g p y HY9.out HM1.out HF1.out.h1 HB1.out _ HX.out).mono ?_; rintro e w' ⟨rfl, hh, hs⟩; replace HX := Lib.hid hh; replace HY := Lib.hid (obj_step HY.out hs (notin NN.out.2.1.1)); replace HZ := Lib.hid (obj_step HZ.out hs (notin NN.out.2.2.1.1)); replace HQ := Lib.hid (obj_step HQ.out hs (notin NN.out.2.2.2.1)); replace HST := Lib.hid (two_of (bg := 0) HST.out OO.out.1 hs); replace HSZ := Lib.hid (Nat.le_trans HSZ.out hs.size); clear hh) | (go_at_call 16; refine (refSpend_any bv m g p y HY9.out HF1.out.h1 HB1.out _ HY.out).mono ?_; rintro e w' ⟨rfl, hh, hs⟩; replace HX := Lib.hid (obj_step HX.out hs (notin NN.out.1.1)); replace HY := Lib.hid hh; replace HZ := Lib.hid (obj_step HZ.out hs (notin NN.out.2.2.1.2.1)); replace HQ := Lib.hid (obj_step HQ.out hs (notin NN.out.2.2.2.2.1)); replace HST := Lib.hid (two_of (bg := 0) HST.out OO.out.2.1 hs); replace HSZ := Lib.hid (Nat.le_trans HSZ.out hs.size); clear hh))
          (try clear hs)
          (try clear hHeld)
          have hF2 : Four (k + 1) _ bs bv bg (bv + 1) m g (paid y p (g - p)) G t u := ⟨HX.out, HY.out, HZ.out, HQ.out, FB.out.1, FB.out.2.1, FB.out.2.2.1, FB.out.2.2.2.1, FB.out.2.2.2.2.1, FB.out.2.2.2.2.2.1, FB.out.2.2.2.2.2.2⟩
          have HF2 := Lib.hid hF2
          clear hF2 FB
          generalize (paid y p (g - p)) = p2 at *
          have hw1 : IntKind.i64.wrap ((g : Int) - (p2 : Int)) = ((g - p2 : Nat) : Int) := by obtain ⟨_, _, _, _, a1, a2, a3, a4, a5, a6, a7⟩ := HF2.out; have := HM2.out; rw [IntKind.wrap_i64]; omega
          have hw2 : IntKind.i64.wrap ((t : Int) - (u : Int)) = ((t - u : Nat) : Int) := by obtain ⟨_, _, _, _, a1, a2, a3, a4, a5, a6, a7⟩ := HF2.out; have := HM2.out; rw [IntKind.wrap_i64]; omega
          obtain ⟨d0, d1, d2, _, _⟩ := rs_cells HF2.out.xv
          obtain ⟨f0, f1, f2, f3, _, _, _⟩ := rg_cells HF2.out.xw
          have LG := Lib.hid (show g < 4611686018427387904 by obtain ⟨_, _, _, _, a1, a2, a3, a4, a5, a6, a7⟩ := HF2.out; have := HM2.out; omega)
          have LT := Lib.hid (show t < 4611686018427387904 by obtain ⟨_, _, _, _, a1, a2, a3, a4, a5, a6, a7⟩ := HF2.out; have := HM2.out; omega)
          clear HX HY HZ HQ
          go_wp2_with fail
          go_quiet ((first | (go_at_call 25; exact Calls.quiet_of (left_q bs m g p2 HM1.out HF2.out.h1 LG.out _ HF2.out.xs)) | (go_at_call 26; exact Calls.quiet_of (held_any bg m G t u HM1.out HF2.out.h3 LT.out _ HF2.out.xg))))
          go_wp2
          go_roundw
          case rel => exact ⟨k + 1, g, p2, G, t, u, by omega, by omega, by go_num, ⟨HF2.out.step (Step.drewN _ _), HST.out.trans (Step.drewN _ _)⟩, HSZ.out⟩
          case measure => simp [intOf]; omega
        · go_wp2_with fail
          generalize wr.alloc (.cells #[.int .i64 2, .int .i64 y, .int .u64 (z : Int)] 40) = W1 at *
          have hne := HCB.out
          generalize wr.heap.size = cb at *
          obtain ⟨n1, n2, n3, n4, n5, n6, l1, l2, l3, l4, o1, o2, o3, o4⟩ := HA.out.1
          have Es := Lib.hid (show cb ≠ bs by omega)
          have Ev := Lib.hid (show cb ≠ bv by omega)
          have Eg := Lib.hid (show cb ≠ bg by omega)
          have Ew := Lib.hid (show cb ≠ (bv + 1) by omega)
          have NN := Lib.hid (show (bs ≠ bv ∧ bs ≠ bg ∧ bs ≠ bv + 1) ∧ (bv ≠ bs ∧ bv ≠ bg ∧ bv ≠ bv + 1) ∧ (bg ≠ bs ∧ bg ≠ bv ∧ bg ≠ bv + 1) ∧ (bv + 1 ≠ bs ∧ bv + 1 ≠ bv ∧ bv + 1 ≠ bg) by omega)
          have OO := Lib.hid (show w.heap.size ≤ bs ∧ w.heap.size ≤ bv ∧ w.heap.size ≤ bg ∧ w.heap.size ≤ bv + 1 by omega)
          clear n1 n2 n3 n4 n5 n6 l1 l2 l3 l4 o1 o2 o3 o4 hne
          have k1 : W1.drew.cell? ⟨cb, 2, none⟩ = some (.int .u64 (z : Int)) := cells_cell HC0.out rfl
          have HX := Lib.hid (HF1.out.step (Step.drew W1)).xs
          have HY := Lib.hid (HF1.out.step (Step.drew W1)).xv
          have HZ := Lib.hid (HF1.out.step (Step.drew W1)).xg
          have HQ := Lib.hid (HF1.out.step (Step.drew W1)).xw
          have HST := Lib.hid (HST1.out.trans (Step.drew W1))
          have HSZ := Lib.hid (show bv + 1 + 1 ≤ W1.drew.heap.size from HSZ.out)
          have FB := Lib.hid (show p ≤ (lateG m g p z) ∧ (lateG m g p z) ≤ p + m ∧ u ≤ t ∧ t ≤ G ∧ G ≤ u + m ∧ p ≤ 8192 * (k + 1) ∧ u ≤ 8192 * (k + 1) by obtain ⟨_, _, _, _, a1, a2, a3, a4, a5, a6, a7⟩ := HF1.out; have := HM2.out; have := @lateG_ge m g p z; have := @lateG_le m g p z a2; omega)
          go_region_held3 (fun W => W.cell? ⟨cb, 2, none⟩ = some (.int .u64 (z : Int))) (first | exact k1 | exact keepc hs Es.out (by assumption) | exact keepc hs Ev.out (by assumption))
            (first | (go_at_call 17; refine (granted_any bs m g p z HM1.out HM2.out HF1.out.h1 HB1.out HZ9.out _ HX.out).mono ?_; rintro e w' ⟨rfl, hh, hs⟩; replace HX := Lib.hid hh; replace HY := Lib.hid (obj_step HY.out hs (notin NN.out.2.1.1)); replace HZ := Lib.hid (obj_step HZ.out hs (notin NN.out.2.2.1.1)); replace HQ := Lib.hid (obj_step HQ.out hs (notin NN.out.2.2.2.1)); replace HST := Lib.hid (two_of (bg := 0) HST.out OO.out.1 hs); replace HSZ := Lib.hid (Nat.le_trans HSZ.out hs.size); clear hh) | (go_at_call 18; refine (refGranted_any bv m g p z HM2.out HF1.out.h1 HB1.out HZ9.out _ HY.out).mono ?_; rintro e w' ⟨rfl, hh, hs⟩; replace HX := Lib.hid (obj_step HX.out hs (notin NN.out.1.1)); replace HY := Lib.hid hh; replace HZ := Lib.hid (obj_step HZ.out hs (notin NN.out.2.2.1.2.1)); replace HQ := Lib.hid (obj_step HQ.out hs (notin NN.out.2.2.2.2.1)); replace HST := Lib.hid (two_of (bg := 0) HST.out OO.out.2.1 hs); replace HSZ := Lib.hid (Nat.le_trans HSZ.out hs.size); clear hh))
          (try clear hs)
          (try clear hHeld)
          have hF2 : Four (k + 1) _ bs bv bg (bv + 1) m (lateG m g p z) p G t u := ⟨HX.out, HY.out, HZ.out, HQ.out, FB.out.1, FB.out.2.1, FB.out.2.2.1, FB.out.2.2.2.1, FB.out.2.2.2.2.1, FB.out.2.2.2.2.2.1, FB.out.2.2.2.2.2.2⟩
          have HF2 := Lib.hid hF2
          clear hF2 FB
          generalize (lateG m g p z) = g2 at *
          have hw1 : IntKind.i64.wrap ((g2 : Int) - (p : Int)) = ((g2 - p : Nat) : Int) := by obtain ⟨_, _, _, _, a1, a2, a3, a4, a5, a6, a7⟩ := HF2.out; have := HM2.out; rw [IntKind.wrap_i64]; omega
          have hw2 : IntKind.i64.wrap ((t : Int) - (u : Int)) = ((t - u : Nat) : Int) := by obtain ⟨_, _, _, _, a1, a2, a3, a4, a5, a6, a7⟩ := HF2.out; have := HM2.out; rw [IntKind.wrap_i64]; omega
          obtain ⟨d0, d1, d2, _, _⟩ := rs_cells HF2.out.xv
          obtain ⟨f0, f1, f2, f3, _, _, _⟩ := rg_cells HF2.out.xw
          have LG := Lib.hid (show g2 < 4611686018427387904 by obtain ⟨_, _, _, _, a1, a2, a3, a4, a5, a6, a7⟩ := HF2.out; have := HM2.out; omega)
          have LT := Lib.hid (show t < 4611686018427387904 by obtain ⟨_, _, _, _, a1, a2, a3, a4, a5, a6, a7⟩ := HF2.out; have := HM2.out; omega)
          clear HX HY HZ HQ
          go_wp2_with fail
          go_quiet ((first | (go_at_call 25; exact Calls.quiet_of (left_q bs m g2 p HM1.out HF2.out.h1 LG.out _ HF2.out.xs)) | (go_at_call 26; exact Calls.quiet_of (held_any bg m G t u HM1.out HF2.out.h3 LT.out _ HF2.out.xg))))
          go_wp2
          go_roundw
          case rel => exact ⟨k + 1, g2, p, G, t, u, by omega, by omega, by go_num, ⟨HF2.out.step (Step.drewN _ _), HST.out.trans (Step.drewN _ _)⟩, HSZ.out⟩
          case measure => simp [intOf]; omega
        · go_wp2_with fail
          generalize wr.alloc (.cells #[.int .i64 3, .int .i64 y, .int .u64 (z : Int)] 40) = W1 at *
          have hne := HCB.out
          generalize wr.heap.size = cb at *
          obtain ⟨n1, n2, n3, n4, n5, n6, l1, l2, l3, l4, o1, o2, o3, o4⟩ := HA.out.1
          have Es := Lib.hid (show cb ≠ bs by omega)
          have Ev := Lib.hid (show cb ≠ bv by omega)
          have Eg := Lib.hid (show cb ≠ bg by omega)
          have Ew := Lib.hid (show cb ≠ (bv + 1) by omega)
          have NN := Lib.hid (show (bs ≠ bv ∧ bs ≠ bg ∧ bs ≠ bv + 1) ∧ (bv ≠ bs ∧ bv ≠ bg ∧ bv ≠ bv + 1) ∧ (bg ≠ bs ∧ bg ≠ bv ∧ bg ≠ bv + 1) ∧ (bv + 1 ≠ bs ∧ bv + 1 ≠ bv ∧ bv + 1 ≠ bg) by omega)
          have OO := Lib.hid (show w.heap.size ≤ bs ∧ w.heap.size ≤ bv ∧ w.heap.size ≤ bg ∧ w.heap.size ≤ bv + 1 by omega)
          clear n1 n2 n3 n4 n5 n6 l1 l2 l3 l4 o1 o2 o3 o4 hne
          have k1 : W1.drew.cell? ⟨cb, 1, none⟩ = some (.int .i64 y) := cells_cell HC0.out rfl
          have HX := Lib.hid (HF1.out.step (Step.drew W1)).xs
          have HY := Lib.hid (HF1.out.step (Step.drew W1)).xv
          have HZ := Lib.hid (HF1.out.step (Step.drew W1)).xg
          have HQ := Lib.hid (HF1.out.step (Step.drew W1)).xw
          have HST := Lib.hid (HST1.out.trans (Step.drew W1))
          have HSZ := Lib.hid (show bv + 1 + 1 ≤ W1.drew.heap.size from HSZ.out)
          have FB := Lib.hid (show p ≤ g ∧ g ≤ p + m ∧ u ≤ (paid y t (G - t)) ∧ (paid y t (G - t)) ≤ G ∧ G ≤ u + m ∧ p ≤ 8192 * (k + 1) ∧ u ≤ 8192 * (k + 1) by obtain ⟨_, _, _, _, a1, a2, a3, a4, a5, a6, a7⟩ := HF1.out; have := HM2.out; have := @paid_le y t G a4; have := @paid_ge y t (G - t); omega)
          go_region_held3 (fun W => W.cell? ⟨cb, 1, none⟩ = some (.int .i64 y)) (first | exact k1 | exact keepc hs Eg.out (by assumption) | exact keepc hs Ew.out (by assumption))
            (first | (go_at_call 19; refine (take_any bg m G t u y HY9.out HM1.out HF1.out.h4 HB2.out _ HZ.out).mono ?_; rintro e w' ⟨rfl, hh, hs⟩; replace HX := Lib.hid (obj_step HX.out hs (notin NN.out.1.2.1)); replace HY := Lib.hid (obj_step HY.out hs (notin NN.out.2.1.2.1)); replace HZ := Lib.hid hh; replace HQ := Lib.hid (obj_step HQ.out hs (notin NN.out.2.2.2.2.2)); replace HST := Lib.hid (two_of (bg := 0) HST.out OO.out.2.2.1 hs); replace HSZ := Lib.hid (Nat.le_trans HSZ.out hs.size); clear hh) | (go_at_call 20; refine (refTake_any (bv + 1) m G t u y HY9.out HF1.out.h4 HB2.out _ HQ.out).mono ?_; rintro e w' ⟨rfl, hh, hs⟩; replace HX := Lib.hid (obj_step HX.out hs (notin NN.out.1.2.2)); replace HY := Lib.hid (obj_step HY.out hs (notin NN.out.2.1.2.2)); replace HZ := Lib.hid (obj_step HZ.out hs (notin NN.out.2.2.1.2.2)); replace HQ := Lib.hid hh; replace HST := Lib.hid (two_of (bg := 0) HST.out OO.out.2.2.2 hs); replace HSZ := Lib.hid (Nat.le_trans HSZ.out hs.size); clear hh))
          (try clear hs)
          (try clear hHeld)
          have hF2 : Four (k + 1) _ bs bv bg (bv + 1) m g p G (paid y t (G - t)) u := ⟨HX.out, HY.out, HZ.out, HQ.out, FB.out.1, FB.out.2.1, FB.out.2.2.1, FB.out.2.2.2.1, FB.out.2.2.2.2.1, FB.out.2.2.2.2.2.1, FB.out.2.2.2.2.2.2⟩
          have HF2 := Lib.hid hF2
          clear hF2 FB
          generalize (paid y t (G - t)) = t2 at *
          have hw1 : IntKind.i64.wrap ((g : Int) - (p : Int)) = ((g - p : Nat) : Int) := by obtain ⟨_, _, _, _, a1, a2, a3, a4, a5, a6, a7⟩ := HF2.out; have := HM2.out; rw [IntKind.wrap_i64]; omega
          have hw2 : IntKind.i64.wrap ((t2 : Int) - (u : Int)) = ((t2 - u : Nat) : Int) := by obtain ⟨_, _, _, _, a1, a2, a3, a4, a5, a6, a7⟩ := HF2.out; have := HM2.out; rw [IntKind.wrap_i64]; omega
          obtain ⟨d0, d1, d2, _, _⟩ := rs_cells HF2.out.xv
          obtain ⟨f0, f1, f2, f3, _, _, _⟩ := rg_cells HF2.out.xw
          have LG := Lib.hid (show g < 4611686018427387904 by obtain ⟨_, _, _, _, a1, a2, a3, a4, a5, a6, a7⟩ := HF2.out; have := HM2.out; omega)
          have LT := Lib.hid (show t2 < 4611686018427387904 by obtain ⟨_, _, _, _, a1, a2, a3, a4, a5, a6, a7⟩ := HF2.out; have := HM2.out; omega)
          clear HX HY HZ HQ
          go_wp2_with fail
          go_quiet ((first | (go_at_call 25; exact Calls.quiet_of (left_q bs m g p HM1.out HF2.out.h1 LG.out _ HF2.out.xs)) | (go_at_call 26; exact Calls.quiet_of (held_any bg m G t2 u HM1.out HF2.out.h3 LT.out _ HF2.out.xg))))
          go_wp2
          go_roundw
          case rel => exact ⟨k + 1, g, p, G, t2, u, by omega, by omega, by go_num, ⟨HF2.out.step (Step.drewN _ _), HST.out.trans (Step.drewN _ _)⟩, HSZ.out⟩
          case measure => simp [intOf]; omega
        · go_wp2_with fail
          generalize wr.alloc (.cells #[.int .i64 4, .int .i64 y, .int .u64 (z : Int)] 40) = W1 at *
          have hne := HCB.out
          generalize wr.heap.size = cb at *
          obtain ⟨n1, n2, n3, n4, n5, n6, l1, l2, l3, l4, o1, o2, o3, o4⟩ := HA.out.1
          have Es := Lib.hid (show cb ≠ bs by omega)
          have Ev := Lib.hid (show cb ≠ bv by omega)
          have Eg := Lib.hid (show cb ≠ bg by omega)
          have Ew := Lib.hid (show cb ≠ (bv + 1) by omega)
          have NN := Lib.hid (show (bs ≠ bv ∧ bs ≠ bg ∧ bs ≠ bv + 1) ∧ (bv ≠ bs ∧ bv ≠ bg ∧ bv ≠ bv + 1) ∧ (bg ≠ bs ∧ bg ≠ bv ∧ bg ≠ bv + 1) ∧ (bv + 1 ≠ bs ∧ bv + 1 ≠ bv ∧ bv + 1 ≠ bg) by omega)
          have OO := Lib.hid (show w.heap.size ≤ bs ∧ w.heap.size ≤ bv ∧ w.heap.size ≤ bg ∧ w.heap.size ≤ bv + 1 by omega)
          clear n1 n2 n3 n4 n5 n6 l1 l2 l3 l4 o1 o2 o3 o4 hne
          have k1 : W1.drew.cell? ⟨cb, 1, none⟩ = some (.int .i64 y) := cells_cell HC0.out rfl
          have HX := Lib.hid (HF1.out.step (Step.drew W1)).xs
          have HY := Lib.hid (HF1.out.step (Step.drew W1)).xv
          have HZ := Lib.hid (HF1.out.step (Step.drew W1)).xg
          have HQ := Lib.hid (HF1.out.step (Step.drew W1)).xw
          have HST := Lib.hid (HST1.out.trans (Step.drew W1))
          have HSZ := Lib.hid (show bv + 1 + 1 ≤ W1.drew.heap.size from HSZ.out)
          have FB := Lib.hid (show p ≤ g ∧ g ≤ p + m ∧ u ≤ (paid y t (G - t)) ∧ (paid y t (G - t)) ≤ G ∧ G ≤ u + m ∧ p ≤ 8192 * (k + 1) ∧ u ≤ 8192 * (k + 1) by obtain ⟨_, _, _, _, a1, a2, a3, a4, a5, a6, a7⟩ := HF1.out; have := HM2.out; have := @paid_le y t G a4; have := @paid_ge y t (G - t); omega)
          go_region_held3 (fun W => W.cell? ⟨cb, 1, none⟩ = some (.int .i64 y)) (first | exact k1 | exact keepc hs Eg.out (by assumption) | exact keepc hs Ew.out (by assumption))
            (first | (go_at_call 19; refine (take_any bg m G t u y HY9.out HM1.out HF1.out.h4 HB2.out _ HZ.out).mono ?_; rintro e w' ⟨rfl, hh, hs⟩; replace HX := Lib.hid (obj_step HX.out hs (notin NN.out.1.2.1)); replace HY := Lib.hid (obj_step HY.out hs (notin NN.out.2.1.2.1)); replace HZ := Lib.hid hh; replace HQ := Lib.hid (obj_step HQ.out hs (notin NN.out.2.2.2.2.2)); replace HST := Lib.hid (two_of (bg := 0) HST.out OO.out.2.2.1 hs); replace HSZ := Lib.hid (Nat.le_trans HSZ.out hs.size); clear hh) | (go_at_call 20; refine (refTake_any (bv + 1) m G t u y HY9.out HF1.out.h4 HB2.out _ HQ.out).mono ?_; rintro e w' ⟨rfl, hh, hs⟩; replace HX := Lib.hid (obj_step HX.out hs (notin NN.out.1.2.2)); replace HY := Lib.hid (obj_step HY.out hs (notin NN.out.2.1.2.2)); replace HZ := Lib.hid (obj_step HZ.out hs (notin NN.out.2.2.1.2.2)); replace HQ := Lib.hid hh; replace HST := Lib.hid (two_of (bg := 0) HST.out OO.out.2.2.2 hs); replace HSZ := Lib.hid (Nat.le_trans HSZ.out hs.size); clear hh))
          (try clear hs)
          (try clear hHeld)
          have hF2 : Four (k + 1) _ bs bv bg (bv + 1) m g p G (paid y t (G - t)) u := ⟨HX.out, HY.out, HZ.out, HQ.out, FB.out.1, FB.out.2.1, FB.out.2.2.1, FB.out.2.2.2.1, FB.out.2.2.2.2.1, FB.out.2.2.2.2.2.1, FB.out.2.2.2.2.2.2⟩
          have HF2 := Lib.hid hF2
          clear hF2 FB
          generalize (paid y t (G - t)) = t2 at *
          have hw1 : IntKind.i64.wrap ((g : Int) - (p : Int)) = ((g - p : Nat) : Int) := by obtain ⟨_, _, _, _, a1, a2, a3, a4, a5, a6, a7⟩ := HF2.out; have := HM2.out; rw [IntKind.wrap_i64]; omega
          have hw2 : IntKind.i64.wrap ((t2 : Int) - (u : Int)) = ((t2 - u : Nat) : Int) := by obtain ⟨_, _, _, _, a1, a2, a3, a4, a5, a6, a7⟩ := HF2.out; have := HM2.out; rw [IntKind.wrap_i64]; omega
          obtain ⟨d0, d1, d2, _, _⟩ := rs_cells HF2.out.xv
          obtain ⟨f0, f1, f2, f3, _, _, _⟩ := rg_cells HF2.out.xw
          have LG := Lib.hid (show g < 4611686018427387904 by obtain ⟨_, _, _, _, a1, a2, a3, a4, a5, a6, a7⟩ := HF2.out; have := HM2.out; omega)
          have LT := Lib.hid (show t2 < 4611686018427387904 by obtain ⟨_, _, _, _, a1, a2, a3, a4, a5, a6, a7⟩ := HF2.out; have := HM2.out; omega)
          clear HX HY HZ HQ
          go_wp2_with fail
          go_quiet ((first | (go_at_call 25; exact Calls.quiet_of (left_q bs m g p HM1.out HF2.out.h1 LG.out _ HF2.out.xs)) | (go_at_call 26; exact Calls.quiet_of (held_any bg m G t2 u HM1.out HF2.out.h3 LT.out _ HF2.out.xg))))
          go_wp2
          go_roundw
          case rel => exact ⟨k + 1, g, p, G, t2, u, by omega, by omega, by go_num, ⟨HF2.out.step (Step.drewN _ _), HST.out.trans (Step.drewN _ _)⟩, HSZ.out⟩
          case measure => simp [intOf]; omega
        · go_wp2_with fail
          generalize wr.alloc (.cells #[.int .i64 5, .int .i64 y, .int .u64 (z : Int)] 40) = W1 at *
          have hne := HCB.out
          generalize wr.heap.size = cb at *
          obtain ⟨n1, n2, n3, n4, n5, n6, l1, l2, l3, l4, o1, o2, o3, o4⟩ := HA.out.1
          have Es := Lib.hid (show cb ≠ bs by omega)
          have Ev := Lib.hid (show cb ≠ bv by omega)
          have Eg := Lib.hid (show cb ≠ bg by omega)
          have Ew := Lib.hid (show cb ≠ (bv + 1) by omega)
          have NN := Lib.hid (show (bs ≠ bv ∧ bs ≠ bg ∧ bs ≠ bv + 1) ∧ (bv ≠ bs ∧ bv ≠ bg ∧ bv ≠ bv + 1) ∧ (bg ≠ bs ∧ bg ≠ bv ∧ bg ≠ bv + 1) ∧ (bv + 1 ≠ bs ∧ bv + 1 ≠ bv ∧ bv + 1 ≠ bg) by omega)
          have OO := Lib.hid (show w.heap.size ≤ bs ∧ w.heap.size ≤ bv ∧ w.heap.size ≤ bg ∧ w.heap.size ≤ bv + 1 by omega)
          clear n1 n2 n3 n4 n5 n6 l1 l2 l3 l4 o1 o2 o3 o4 hne
          have k1 : W1.drew.cell? ⟨cb, 1, none⟩ = some (.int .i64 y) := cells_cell HC0.out rfl
          have HX := Lib.hid (HF1.out.step (Step.drew W1)).xs
          have HY := Lib.hid (HF1.out.step (Step.drew W1)).xv
          have HZ := Lib.hid (HF1.out.step (Step.drew W1)).xg
          have HQ := Lib.hid (HF1.out.step (Step.drew W1)).xw
          have HST := Lib.hid (HST1.out.trans (Step.drew W1))
          have HSZ := Lib.hid (show bv + 1 + 1 ≤ W1.drew.heap.size from HSZ.out)
          have FB := Lib.hid (show p ≤ g ∧ g ≤ p + m ∧ (paid y u (t - u)) ≤ t ∧ t ≤ G ∧ G ≤ (paid y u (t - u)) + m ∧ p ≤ 8192 * (k + 1) ∧ (paid y u (t - u)) ≤ 8192 * (k + 1) by obtain ⟨_, _, _, _, a1, a2, a3, a4, a5, a6, a7⟩ := HF1.out; have := HM2.out; have := @paid_le y u t a3; have := @paid_ge y u (t - u); omega)
          go_region_held3 (fun W => W.cell? ⟨cb, 1, none⟩ = some (.int .i64 y)) (first | exact k1 | exact keepc hs Eg.out (by assumption) | exact keepc hs Ew.out (by assumption))
            (first | (go_at_call 21; refine (use_any bg m G t u y HY9.out HM1.out HF1.out.h3 HB4.out _ HZ.out).mono ?_; rintro e w' ⟨rfl, hh, hs⟩; replace HX := Lib.hid (obj_step HX.out hs (notin NN.out.1.2.1)); replace HY := Lib.hid (obj_step HY.out hs (notin NN.out.2.1.2.1)); replace HZ := Lib.hid hh; replace HQ := Lib.hid (obj_step HQ.out hs (notin NN.out.2.2.2.2.2)); replace HST := Lib.hid (two_of (bg := 0) HST.out OO.out.2.2.1 hs); replace HSZ := Lib.hid (Nat.le_trans HSZ.out hs.size); clear hh) | (go_at_call 22; refine (refUse_any (bv + 1) m G t u y HY9.out HF1.out.h3 HB4.out _ HQ.out).mono ?_; rintro e w' ⟨rfl, hh, hs⟩; replace HX := Lib.hid (obj_step HX.out hs (notin NN.out.1.2.2)); replace HY := Lib.hid (obj_step HY.out hs (notin NN.out.2.1.2.2)); replace HZ := Lib.hid (obj_step HZ.out hs (notin NN.out.2.2.1.2.2)); replace HQ := Lib.hid hh; replace HST := Lib.hid (two_of (bg := 0) HST.out OO.out.2.2.2 hs); replace HSZ := Lib.hid (Nat.le_trans HSZ.out hs.size); clear hh))
          (try clear hs)
          (try clear hHeld)
          have hF2 : Four (k + 1) _ bs bv bg (bv + 1) m g p G t (paid y u (t - u)) := ⟨HX.out, HY.out, HZ.out, HQ.out, FB.out.1, FB.out.2.1, FB.out.2.2.1, FB.out.2.2.2.1, FB.out.2.2.2.2.1, FB.out.2.2.2.2.2.1, FB.out.2.2.2.2.2.2⟩
          have HF2 := Lib.hid hF2
          clear hF2 FB
          generalize (paid y u (t - u)) = u2 at *
          have hw1 : IntKind.i64.wrap ((g : Int) - (p : Int)) = ((g - p : Nat) : Int) := by obtain ⟨_, _, _, _, a1, a2, a3, a4, a5, a6, a7⟩ := HF2.out; have := HM2.out; rw [IntKind.wrap_i64]; omega
          have hw2 : IntKind.i64.wrap ((t : Int) - (u2 : Int)) = ((t - u2 : Nat) : Int) := by obtain ⟨_, _, _, _, a1, a2, a3, a4, a5, a6, a7⟩ := HF2.out; have := HM2.out; rw [IntKind.wrap_i64]; omega
          obtain ⟨d0, d1, d2, _, _⟩ := rs_cells HF2.out.xv
          obtain ⟨f0, f1, f2, f3, _, _, _⟩ := rg_cells HF2.out.xw
          have LG := Lib.hid (show g < 4611686018427387904 by obtain ⟨_, _, _, _, a1, a2, a3, a4, a5, a6, a7⟩ := HF2.out; have := HM2.out; omega)
          have LT := Lib.hid (show t < 4611686018427387904 by obtain ⟨_, _, _, _, a1, a2, a3, a4, a5, a6, a7⟩ := HF2.out; have := HM2.out; omega)
          clear HX HY HZ HQ
          go_wp2_with fail
          go_quiet ((first | (go_at_call 25; exact Calls.quiet_of (left_q bs m g p HM1.out HF2.out.h1 LG.out _ HF2.out.xs)) | (go_at_call 26; exact Calls.quiet_of (held_any bg m G t u2 HM1.out HF2.out.h3 LT.out _ HF2.out.xg))))
          go_wp2
          go_roundw
          case rel => exact ⟨k + 1, g, p, G, t, u2, by omega, by omega, by go_num, ⟨HF2.out.step (Step.drewN _ _), HST.out.trans (Step.drewN _ _)⟩, HSZ.out⟩
          case measure => simp [intOf]; omega
        · go_wp2_with fail
          generalize wr.alloc (.cells #[.int .i64 6, .int .i64 y, .int .u64 (z : Int)] 40) = W1 at *
          have hne := HCB.out
          generalize wr.heap.size = cb at *
          obtain ⟨n1, n2, n3, n4, n5, n6, l1, l2, l3, l4, o1, o2, o3, o4⟩ := HA.out.1
          have Es := Lib.hid (show cb ≠ bs by omega)
          have Ev := Lib.hid (show cb ≠ bv by omega)
          have Eg := Lib.hid (show cb ≠ bg by omega)
          have Ew := Lib.hid (show cb ≠ (bv + 1) by omega)
          have NN := Lib.hid (show (bs ≠ bv ∧ bs ≠ bg ∧ bs ≠ bv + 1) ∧ (bv ≠ bs ∧ bv ≠ bg ∧ bv ≠ bv + 1) ∧ (bg ≠ bs ∧ bg ≠ bv ∧ bg ≠ bv + 1) ∧ (bv + 1 ≠ bs ∧ bv + 1 ≠ bv ∧ bv + 1 ≠ bg) by omega)
          have OO := Lib.hid (show w.heap.size ≤ bs ∧ w.heap.size ≤ bv ∧ w.heap.size ≤ bg ∧ w.heap.size ≤ bv + 1 by omega)
          clear n1 n2 n3 n4 n5 n6 l1 l2 l3 l4 o1 o2 o3 o4 hne
          have k1 : W1.drew.cell? ⟨cb, 1, none⟩ = some (.int .i64 y) := cells_cell HC0.out rfl
          have HX := Lib.hid (HF1.out.step (Step.drew W1)).xs
          have HY := Lib.hid (HF1.out.step (Step.drew W1)).xv
          have HZ := Lib.hid (HF1.out.step (Step.drew W1)).xg
          have HQ := Lib.hid (HF1.out.step (Step.drew W1)).xw
          have HST := Lib.hid (HST1.out.trans (Step.drew W1))
          have HSZ := Lib.hid (show bv + 1 + 1 ≤ W1.drew.heap.size from HSZ.out)
          have FB := Lib.hid (show p ≤ g ∧ g ≤ p + m ∧ (paid y u (t - u)) ≤ t ∧ t ≤ G ∧ G ≤ (paid y u (t - u)) + m ∧ p ≤ 8192 * (k + 1) ∧ (paid y u (t - u)) ≤ 8192 * (k + 1) by obtain ⟨_, _, _, _, a1, a2, a3, a4, a5, a6, a7⟩ := HF1.out; have := HM2.out; have := @paid_le y u t a3; have := @paid_ge y u (t - u); omega)
          go_region_held3 (fun W => W.cell? ⟨cb, 1, none⟩ = some (.int .i64 y)) (first | exact k1 | exact keepc hs Eg.out (by assumption) | exact keepc hs Ew.out (by assumption))
            (first | (go_at_call 21; refine (use_any bg m G t u y HY9.out HM1.out HF1.out.h3 HB4.out _ HZ.out).mono ?_; rintro e w' ⟨rfl, hh, hs⟩; replace HX := Lib.hid (obj_step HX.out hs (notin NN.out.1.2.1)); replace HY := Lib.hid (obj_step HY.out hs (notin NN.out.2.1.2.1)); replace HZ := Lib.hid hh; replace HQ := Lib.hid (obj_step HQ.out hs (notin NN.out.2.2.2.2.2)); replace HST := Lib.hid (two_of (bg := 0) HST.out OO.out.2.2.1 hs); replace HSZ := Lib.hid (Nat.le_trans HSZ.out hs.size); clear hh) | (go_at_call 22; refine (refUse_any (bv + 1) m G t u y HY9.out HF1.out.h3 HB4.out _ HQ.out).mono ?_; rintro e w' ⟨rfl, hh, hs⟩; replace HX := Lib.hid (obj_step HX.out hs (notin NN.out.1.2.2)); replace HY := Lib.hid (obj_step HY.out hs (notin NN.out.2.1.2.2)); replace HZ := Lib.hid (obj_step HZ.out hs (notin NN.out.2.2.1.2.2)); replace HQ := Lib.hid hh; replace HST := Lib.hid (two_of (bg := 0) HST.out OO.out.2.2.2 hs); replace HSZ := Lib.hid (Nat.le_trans HSZ.out hs.size); clear hh))
          (try clear hs)
          (try clear hHeld)
          have hF2 : Four (k + 1) _ bs bv bg (bv + 1) m g p G t (paid y u (t - u)) := ⟨HX.out, HY.out, HZ.out, HQ.out, FB.out.1, FB.out.2.1, FB.out.2.2.1, FB.out.2.2.2.1, FB.out.2.2.2.2.1, FB.out.2.2.2.2.2.1, FB.out.2.2.2.2.2.2⟩
          have HF2 := Lib.hid hF2
          clear hF2 FB
          generalize (paid y u (t - u)) = u2 at *
          have hw1 : IntKind.i64.wrap ((g : Int) - (p : Int)) = ((g - p : Nat) : Int) := by obtain ⟨_, _, _, _, a1, a2, a3, a4, a5, a6, a7⟩ := HF2.out; have := HM2.out; rw [IntKind.wrap_i64]; omega
          have hw2 : IntKind.i64.wrap ((t : Int) - (u2 : Int)) = ((t - u2 : Nat) : Int) := by obtain ⟨_, _, _, _, a1, a2, a3, a4, a5, a6, a7⟩ := HF2.out; have := HM2.out; rw [IntKind.wrap_i64]; omega
          obtain ⟨d0, d1, d2, _, _⟩ := rs_cells HF2.out.xv
          obtain ⟨f0, f1, f2, f3, _, _, _⟩ := rg_cells HF2.out.xw
          have LG := Lib.hid (show g < 4611686018427387904 by obtain ⟨_, _, _, _, a1, a2, a3, a4, a5, a6, a7⟩ := HF2.out; have := HM2.out; omega)
          have LT := Lib.hid (show t < 4611686018427387904 by obtain ⟨_, _, _, _, a1, a2, a3, a4, a5, a6, a7⟩ := HF2.out; have := HM2.out; omega)
          clear HX HY HZ HQ
          go_wp2_with fail
          go_quiet ((first | (go_at_call 25; exact Calls.quiet_of (left_q bs m g p HM1.out HF2.out.h1 LG.out _ HF2.out.xs)) | (go_at_call 26; exact Calls.quiet_of (held_any bg m G t u2 HM1.out HF2.out.h3 LT.out _ HF2.out.xg))))
          go_wp2
          go_roundw
          case rel => exact ⟨k + 1, g, p, G, t, u2, by omega, by omega, by go_num, ⟨HF2.out.step (Step.drewN _ _), HST.out.trans (Step.drewN _ _)⟩, HSZ.out⟩
          case measure => simp [intOf]; omega
        · go_wp2_with fail
          generalize wr.alloc (.cells #[.int .i64 7, .int .i64 y, .int .u64 (z : Int)] 40) = W1 at *
          have hne := HCB.out
          generalize wr.heap.size = cb at *
          obtain ⟨n1, n2, n3, n4, n5, n6, l1, l2, l3, l4, o1, o2, o3, o4⟩ := HA.out.1
          have Es := Lib.hid (show cb ≠ bs by omega)
          have Ev := Lib.hid (show cb ≠ bv by omega)
          have Eg := Lib.hid (show cb ≠ bg by omega)
          have Ew := Lib.hid (show cb ≠ (bv + 1) by omega)
          have NN := Lib.hid (show (bs ≠ bv ∧ bs ≠ bg ∧ bs ≠ bv + 1) ∧ (bv ≠ bs ∧ bv ≠ bg ∧ bv ≠ bv + 1) ∧ (bg ≠ bs ∧ bg ≠ bv ∧ bg ≠ bv + 1) ∧ (bv + 1 ≠ bs ∧ bv + 1 ≠ bv ∧ bv + 1 ≠ bg) by omega)
          have OO := Lib.hid (show w.heap.size ≤ bs ∧ w.heap.size ≤ bv ∧ w.heap.size ≤ bg ∧ w.heap.size ≤ bv + 1 by omega)
          clear n1 n2 n3 n4 n5 n6 l1 l2 l3 l4 o1 o2 o3 o4 hne
          have HX := Lib.hid HF1.out.xs
          have HY := Lib.hid HF1.out.xv
          have HZ := Lib.hid HF1.out.xg
          have HQ := Lib.hid HF1.out.xw
          have HST := Lib.hid HST1.out
          have FB := Lib.hid (show p ≤ g ∧ g ≤ p + m ∧ u ≤ t ∧ t ≤ (dueG m G u) ∧ (dueG m G u) ≤ u + m ∧ p ≤ 8192 * (k + 1) ∧ u ≤ 8192 * (k + 1) by obtain ⟨_, _, _, _, a1, a2, a3, a4, a5, a6, a7⟩ := HF1.out; have := HM2.out; have := @dueG_ge m G u a5; have := @dueG_le m G u a5; omega)
          have hdn : IntKind.u64.wrap (dueN m G u : Int) = (dueN m G u : Int) := by obtain ⟨_, _, _, _, a1, a2, a3, a4, a5, a6, a7⟩ := HF1.out; have := HM2.out; have := @dueN_le m G u; rw [IntKind.wrap_u64]; omega
          refine (grant_any bg m G t u HM1.out HM2.out HF1.out.h5 HB3.out _ HZ.out).mono ?_
          rintro e w' ⟨rfl, hh, hs⟩
          replace HZ := Lib.hid hh; replace HX := Lib.hid (obj_step HX.out hs (notin NN.out.1.2.1)); replace HY := Lib.hid (obj_step HY.out hs (notin NN.out.2.1.2.1)); replace HQ := Lib.hid (obj_step HQ.out hs (notin NN.out.2.2.2.2.2)); replace HST := Lib.hid (two_of (bg := 0) HST.out OO.out.2.2.1 hs); replace HSZ := Lib.hid (Nat.le_trans HSZ.out hs.size); clear hh hs
          go_wp2_with fail
          refine (refGrant_any (bv + 1) m G t u HM1.out HM2.out HF1.out.h5 HB3.out _ HQ.out).mono ?_
          rintro e w' ⟨rfl, hh, hs⟩
          replace HQ := Lib.hid hh; replace HX := Lib.hid (obj_step HX.out hs (notin NN.out.1.2.2)); replace HY := Lib.hid (obj_step HY.out hs (notin NN.out.2.1.2.2)); replace HZ := Lib.hid (obj_step HZ.out hs (notin NN.out.2.2.1.2.2)); replace HST := Lib.hid (two_of (bg := 0) HST.out OO.out.2.2.2 hs); replace HSZ := Lib.hid (Nat.le_trans HSZ.out hs.size); clear hh hs
          generalize dueN m G u = dn at *
          generalize due m G u = db at *
          have hF2 : Four (k + 1) _ bs bv bg (bv + 1) m g p (dueG m G u) t u := ⟨HX.out, HY.out, HZ.out, HQ.out, FB.out.1, FB.out.2.1, FB.out.2.2.1, FB.out.2.2.2.1, FB.out.2.2.2.2.1, FB.out.2.2.2.2.2.1, FB.out.2.2.2.2.2.2⟩
          have HF2 := Lib.hid hF2
          clear hF2 FB
          generalize (dueG m G u) = G2 at *
          have hw1 : IntKind.i64.wrap ((g : Int) - (p : Int)) = ((g - p : Nat) : Int) := by obtain ⟨_, _, _, _, a1, a2, a3, a4, a5, a6, a7⟩ := HF2.out; have := HM2.out; rw [IntKind.wrap_i64]; omega
          have hw2 : IntKind.i64.wrap ((t : Int) - (u : Int)) = ((t - u : Nat) : Int) := by obtain ⟨_, _, _, _, a1, a2, a3, a4, a5, a6, a7⟩ := HF2.out; have := HM2.out; rw [IntKind.wrap_i64]; omega
          obtain ⟨d0, d1, d2, _, _⟩ := rs_cells HF2.out.xv
          obtain ⟨f0, f1, f2, f3, _, _, _⟩ := rg_cells HF2.out.xw
          have LG := Lib.hid (show g < 4611686018427387904 by obtain ⟨_, _, _, _, a1, a2, a3, a4, a5, a6, a7⟩ := HF2.out; have := HM2.out; omega)
          have LT := Lib.hid (show t < 4611686018427387904 by obtain ⟨_, _, _, _, a1, a2, a3, a4, a5, a6, a7⟩ := HF2.out; have := HM2.out; omega)
          clear HX HY HZ HQ
          go_wp2_with fail
          go_quiet ((first | (go_at_call 25; exact Calls.quiet_of (left_q bs m g p HM1.out HF2.out.h1 LG.out _ HF2.out.xs)) | (go_at_call 26; exact Calls.quiet_of (held_any bg m G2 t u HM1.out HF2.out.h3 LT.out _ HF2.out.xg))))
          go_wp2
          go_roundw
          case rel => exact ⟨k + 1, g, p, G2, t, u, by omega, by omega, by go_num, ⟨HF2.out.step (Step.drewN _ _), HST.out.trans (Step.drewN _ _)⟩, HSZ.out⟩
          case measure => simp [intOf]; omega
        · go_wp2_with fail
          generalize wr.alloc (.cells #[.int .i64 x, .int .i64 y, .int .u64 (z : Int)] 40) = W1 at *
          have HX := Lib.hid HF1.out.xs
          have HY := Lib.hid HF1.out.xv
          have HZ := Lib.hid HF1.out.xg
          have HQ := Lib.hid HF1.out.xw
          have HST := Lib.hid HST1.out
          have FB := Lib.hid (show p ≤ g ∧ g ≤ p + m ∧ u ≤ t ∧ t ≤ G ∧ G ≤ u + m ∧ p ≤ 8192 * (k + 1) ∧ u ≤ 8192 * (k + 1) by obtain ⟨_, _, _, _, a1, a2, a3, a4, a5, a6, a7⟩ := HF1.out; have := HM2.out; omega)
          have hF2 : Four (k + 1) _ bs bv bg (bv + 1) m g p G t u := ⟨HX.out, HY.out, HZ.out, HQ.out, FB.out.1, FB.out.2.1, FB.out.2.2.1, FB.out.2.2.2.1, FB.out.2.2.2.2.1, FB.out.2.2.2.2.2.1, FB.out.2.2.2.2.2.2⟩
          have HF2 := Lib.hid hF2
          clear hF2 FB
          have hw1 : IntKind.i64.wrap ((g : Int) - (p : Int)) = ((g - p : Nat) : Int) := by obtain ⟨_, _, _, _, a1, a2, a3, a4, a5, a6, a7⟩ := HF2.out; have := HM2.out; rw [IntKind.wrap_i64]; omega
          have hw2 : IntKind.i64.wrap ((t : Int) - (u : Int)) = ((t - u : Nat) : Int) := by obtain ⟨_, _, _, _, a1, a2, a3, a4, a5, a6, a7⟩ := HF2.out; have := HM2.out; rw [IntKind.wrap_i64]; omega
          obtain ⟨d0, d1, d2, _, _⟩ := rs_cells HF2.out.xv
          obtain ⟨f0, f1, f2, f3, _, _, _⟩ := rg_cells HF2.out.xw
          have LG := Lib.hid (show g < 4611686018427387904 by obtain ⟨_, _, _, _, a1, a2, a3, a4, a5, a6, a7⟩ := HF2.out; have := HM2.out; omega)
          have LT := Lib.hid (show t < 4611686018427387904 by obtain ⟨_, _, _, _, a1, a2, a3, a4, a5, a6, a7⟩ := HF2.out; have := HM2.out; omega)
          clear HX HY HZ HQ
          go_wp2_with fail
          go_quiet ((first | (go_at_call 25; exact Calls.quiet_of (left_q bs m g p HM1.out HF2.out.h1 LG.out _ HF2.out.xs)) | (go_at_call 26; exact Calls.quiet_of (held_any bg m G t u HM1.out HF2.out.h3 LT.out _ HF2.out.xg))))
          go_wp2
          go_roundw
          case rel => exact ⟨k + 1, g, p, G, t, u, by omega, by omega, by go_num, ⟨HF2.out.step (Step.drewN _ _), HST.out.trans (Step.drewN _ _)⟩, HSZ.out⟩
          case measure => simp [intOf]; omega
    · go_wp2_with (go_at_call 14; refine (wakes_any _).mono ?_; rintro e w8 ⟨rfl, hs8⟩; have HS8 := Lib.hid hs8; clear hs8)
      go_ret
      exact ⟨rfl, hi.out.1.2.trans HS8.out⟩
end Go.Proofs.Ytnomnhlfenhjdaa
