/- net: Send where 64 wait. No statement is proved here; nothing is assumed. -/
import Derived.Test.YtnomnhlfenhjdaaNetL
import Derived.Deep.RegionLaw
import Derived.Deep.RegionLawGrows
import Derived.OwnWalkIn
import Derived.TacticsInMore
import Derived.LoopNIn
import Derived.LoopIn
import Derived.Deep.QuietTactic
import Derived.BigQuiet
import Derived.Maps.OwnIn
import Derived.Deep.RegionHeld3
import Derived.Laws.Bits64
namespace Go.Proofs.Ytnomnhlfenhjdaa
open Go.RowKit Go.Shelf
set_option linter.unusedVariables false
set_option linter.unusedSimpArgs false
attribute [local go_sem] Oper.semAt_some

theorem upd_upd {α : Type} (f : Nat → α) (k : Nat) (x y : α) : upd (upd f k x) k y = upd f k y := by
  funext i; unfold upd; split <;> rfl
theorem full_out {B : Nat} {W : World} {bn way : Nat} {r : Nat → Value} {e : Nat → List Sl} {d d1 : Nat → List (List Value)} {c : List Value} (hd : d1 = upd d way ((d way).eraseIdx 0)) (h : NetAt B W bn r e (upd d1 way (d1 way ++ [c]))) : NetAt B W bn r e (upd d way ((d way).eraseIdx 0 ++ [c])) := by
  rw [hd, upd_upd, upd_same] at h
  exact h
/-- The block of a slice holds bytes. -/
def V5 (W : World) (v : Value) : Prop := ∀ b, v.ownBlock = some b → ∃ cur fr, W.heap[b]? = some (.cells cur 5 fr)
theorem V5.reads {W W' : World} {v : Value} {c : List Value} {S : List Nat} (h5 : V5 W v) (h : Reads W v c) (hs : Step S W W') (hS : ∀ b cur fr, b ∈ S → W.heap[b]? ≠ some (.cells cur 5 fr)) : Reads W' v c := by
  rcases h with h | ⟨b, off, cap, rfl, h1, h2, h3⟩
  · exact .inl h
  · obtain ⟨cur, fr, hb⟩ := h5 b rfl
    refine .inr ⟨b, off, cap, rfl, h1, h2, fun j hj => ?_⟩
    have hb' := obj_step hb hs (fun hm => hS b cur fr hm hb)
    rw [← h3 j hj]
    simp [World.cell?, hb, hb']
theorem V5.nil (W : World) : V5 W (.slice none 0 0) := fun b h => by cases h
theorem OwnAt.v5 {B : Nat} {W : World} {v : Value} {c : List Value} (h : OwnAt B W 5 v c) : V5 W v := fun b hb => by
  obtain ⟨_, _, cur, hc⟩ := h.block hb
  exact ⟨cur, _, hc⟩
theorem v5_new (w : World) (cs : Array Value) (f : Nat × Nat) (n c : Nat) : V5 (w.alloc (.cells cs 5 f)) (.slice (some ⟨w.heap.size, 0, none⟩) n c) := fun b hb => by
  obtain rfl : w.heap.size = b := by simpa [Value.ownBlock] using hb
  exact ⟨cs, f, by rw [heap_alloc_get, if_pos rfl]⟩

set_option maxRecDepth 100000 in
set_option maxHeartbeats 4000000 in
theorem send_fullx (B bn way : Nat) (hw : way < 2) (r : Nat → Value) (e : Nat → List Sl) (d : Nat → List (List Value)) (v : Value) (c : List Value) (h1c : ∀ u ∈ c, u.oneCell' = true) (hc : c.length ≤ 600) (hl : 64 ≤ (e way).length) (hl2 : (e way).length < 1000) (w : World) (h : NetAt B w bn r e d) (hv : Reads w v c) (h5 : V5 w v) :
    Calls Try.prog 29 #[.pointer (some ⟨bn, 0, none⟩), .int .i64 (way : Int), v] w fun e_ w' => e_ = .returned (.tuple #[.bool true, .int .i64 0]) ∧ ∃ r' e', NetAt B w' bn r' e' (upd d way ((d way).eraseIdx 0 ++ [c])) ∧ StepB B w w' ∧ (∀ v c, OwnAt B w 5 v c → OwnAt B w' 5 v c) ∧ Leaves bn r e r' e' w w' := by
  obtain ⟨i0, hi, hz0, hz1, hz2⟩ := info_parts info68
  obtain ⟨q, n, cc, rfl, hn⟩ : ∃ q n cc, v = .slice q n cc ∧ n = c.length := by
    rcases hv with ⟨q, cap, hv, h2, _⟩ | ⟨b, off, cap, hv, _⟩
    · exact ⟨q, 0, cap, hv, by simp [h2]⟩
    · exact ⟨_, _, _, hv, rfl⟩
  obtain ⟨q0, c0, hr, hc1, hm1⟩ := (h.xr way hw).form
  rw [List.length_map] at hr
  obtain ⟨hcell, hfr⟩ := h.cell hw
  rw [hr] at hcell
  obtain ⟨L0, hL⟩ : ∃ L, L = (e way).length := ⟨_, rfl⟩
  rw [← hL] at hcell hr
  have H := Lib.hid h
  have HV := Lib.hid (And.intro hv h5)
  have HW := Lib.hid hw
  have H1 := Lib.hid h1c
  have HR := Lib.hid hr
  have HI := Lib.hid (show 0 < (e way).length by omega)
  have HC := Lib.hid (show c.length < 1000000 by omega)
  have HL := Lib.hid (show ((e way).eraseIdx 0).length < 1000 from Nat.lt_of_le_of_lt (List.length_eraseIdx_le _ _) hl2)
  have HDEL := Lib.hid (fun X (hX : NetAt B X bn r e d) => delete_any B (r way) (e way) 0 (by omega) X (hX.xr way hw))
  have t1 : ((600 : Int) < (n : Int)) = False := by simp; omega
  have t2 : ((64 : Int) ≤ (L0 : Int)) = True := by simp; omega
  clear h hv hw h1c hr hc hl hc1 hm1 hL hn h5 hl2
  go_enter Try.func29, Try.ntmps29
  go_wp2_with (go_at_call 45; refine (way_ok bn way (r 0) (r 1) HW.out _ H.out.xo).mono ?_; rintro e w' ⟨rfl, rfl⟩)
  have hd := HDEL.out w H.out
  rw [HR.out] at hd
  refine (show Calls Try.prog 46 #[.slice q0 L0 c0, .int .i64 0, .int .i64 1] w _ from hd).mono ?_
  clear hd
  rintro e9 w1 ⟨v1, rfl, hown, hst, hbk⟩
  obtain ⟨q1, L, c1, rfl⟩ := hown.slice'
  obtain ⟨hE, hSB, hc2, hf2, hby⟩ := H.out.drop HW.out HI.out (by rw [HR.out]; exact hst) hown (by rw [HR.out]; exact hbk)
  rw [HR.out] at hc2
  have hrd : Reads (w1.setCell ⟨bn, 1 + way, none⟩ (.slice q1 L c1)) (.slice q n cc) c := by
    have hs1 := hst ((r way).ownBlock.toList) (fun g hg => by rw [HR.out]; simp [hg])
    have hxo' : NetObj w1 bn (r 0) (r 1) := obj_step H.out.xo hs1 (fun hm => by simp at hm; exact (H.out.rowBlock HW.out hm).2.2 rfl)
    have hset : Step [bn] w1 (w1.setCell ⟨bn, 1 + way, none⟩ (.slice q1 L c1)) := Step.setObj hxo' rfl (by simp) _ _
    have hsS := hs1.trans' hset (U := bn :: (r way).ownBlock.toList) (fun i hi _ => List.mem_cons_of_mem _ hi) (fun i hi _ => by simp at hi; simp [hi])
    refine HV.out.2.reads HV.out.1 hsS (fun b cur fr hb hbb => ?_)
    rcases List.mem_cons.1 hb with rfl | hb
    · exact ne_types hbb H.out.xo (by decide) rfl
    · simp at hb
      obtain ⟨_, _, cc2, hcc2⟩ := (H.out.xr way HW.out).block hb
      exact ne_types hbb hcc2 (by decide) rfl
  have hcell2 : (w1.setCell ⟨bn, 1 + way, none⟩ (.slice q1 L c1)).cell? ⟨bn, 1 + way, none⟩ = some (.slice q1 L c1) := by
    have := (hE.cell HW.out).1; rw [upd_same] at this; exact this
  obtain ⟨r1, hr1⟩ : ∃ r1, r1 = upd r way (.slice q1 L c1) := ⟨_, rfl⟩
  obtain ⟨e1, he1⟩ : ∃ e1, e1 = upd e way ((e way).eraseIdx 0) := ⟨_, rfl⟩
  obtain ⟨d1, hd1⟩ : ∃ d1, d1 = upd d way ((d way).eraseIdx 0) := ⟨_, rfl⟩
  rw [← hr1, ← he1, ← hd1] at hE
  obtain ⟨wd, hwd⟩ : ∃ wd, wd = w1.setCell ⟨bn, 1 + way, none⟩ (.slice q1 L c1) := ⟨_, rfl⟩
  have HHD := Lib.hid (show w1.cell? ⟨bn, 1 + way, none⟩ = some (.slice q0 L0 c0) ∧ w1.frozen? ⟨bn, 1 + way, none⟩ = false from ⟨hc2, hf2⟩)
  have HSD := Lib.hid (show StepB B w wd by rw [hwd]; exact hSB)
  have HLD := Lib.hid (show Leaves bn r e r1 e1 w wd ∧ w.heap.size ≤ wd.heap.size by rw [hwd, hr1, he1]; exact ⟨leaves_drop HW.out HR.out hst hbk, by obtain ⟨_, _, h⟩ := hSB; exact h.size⟩)
  have HBD := Lib.hid (show ∀ v c, OwnAt B w 5 v c → OwnAt B wd 5 v c by rw [hwd]; exact hby)
  have HDD := Lib.hid hd1
  rw [← hwd] at hE hrd hcell2
  replace HV := Lib.hid hrd
  replace HR := Lib.hid (show r1 way = .slice q1 L c1 by rw [hr1, upd_same])
  replace HL := Lib.hid (show (e1 way).length < 1000 by rw [he1, upd_same]; exact HL.out)
  replace H := Lib.hid hE
  have HWD := Lib.hid hwd
  have HCE := Lib.hid hcell2
  clear hE hSB hby hown hst hbk hrd hd1 hr1 he1 HDEL HI hwd hcell2 hcell hfr HHD t2
  go_wp2
  rw [← HWD.out]
  have hcell : wd.cell? ⟨bn, 1 + way, none⟩ = some (.slice q1 L c1) := HCE.out
  have HN := Lib.hid (H.out.same (Step.drew wd))
  have HVd := Lib.hid (Reads.same HV.out (Step.drew wd))
  have k1 : wd.drew.cell? ⟨bn, 1 + way, none⟩ = some (.slice q1 L c1) := hcell
  refine wp_region_noPanic ?_
  refine wp_region_held_drew (S := fun _ => True) (by kernel_rfl) trivial (fun hHeld => ?_)
  refine wpAnyH_take (i := 0) (v := ?v0_1) rfl (by kernel_rfl) (by kernel_rfl) (by kernel_rfl) (fun _ _ _ h => h) (Or.inl ⟨by rfl, ?y0_1⟩) (by assumption) ?r0_1
  case y0_1 => ((try simp only [List.getElem_toArray, List.getElem_cons_succ, List.getElem_cons_zero]); intro w hSw; (try dsimp only at hSw); go_simp; first | done | with_reducible rfl)
  (try simp only [Act.put, List.getElem_toArray, List.getElem_cons_succ, List.getElem_cons_zero, List.setIfInBounds_toArray, List.set_cons_zero, List.set_cons_succ])
  refine wpAnyH_take (i := 1) (v := ?v1_2) rfl (by kernel_rfl) (by kernel_rfl) (by kernel_rfl) (fun _ _ _ h => h) (Or.inl ⟨by rfl, ?y1_2⟩) (by assumption) ?r1_2
  case y1_2 => ((try simp only [List.getElem_toArray, List.getElem_cons_succ, List.getElem_cons_zero]); intro w hSw; (try dsimp only at hSw); go_simp; first | done | with_reducible rfl)
  (try simp only [Act.put, List.getElem_toArray, List.getElem_cons_succ, List.getElem_cons_zero, List.setIfInBounds_toArray, List.set_cons_zero, List.set_cons_succ])
  refine wpAnyH_take (i := 2) (v := ?v2_3) rfl (by kernel_rfl) (by kernel_rfl) (by kernel_rfl) (fun _ _ _ h => h) (Or.inl ⟨by rfl, ?y2_3⟩) (by assumption) ?r2_3
  case y2_3 => ((try simp only [List.getElem_toArray, List.getElem_cons_succ, List.getElem_cons_zero]); intro w hSw; (try dsimp only at hSw); go_simp; first | done | with_reducible rfl)
  (try simp only [Act.put, List.getElem_toArray, List.getElem_cons_succ, List.getElem_cons_zero, List.setIfInBounds_toArray, List.set_cons_zero, List.set_cons_succ])
  refine wpAnyH_take (i := 4) (v := ?v4_4) rfl (by kernel_rfl) (by kernel_rfl) (by kernel_rfl) (fun _ _ _ h => h) (Or.inl ⟨by rfl, ?y4_4⟩) (by assumption) ?r4_4
  case y4_4 => ((try simp only [List.getElem_toArray, List.getElem_cons_succ, List.getElem_cons_zero]); intro w hSw; (try dsimp only at hSw); go_simp; first | done | with_reducible rfl)
  (try simp only [Act.put, List.getElem_toArray, List.getElem_cons_succ, List.getElem_cons_zero, List.setIfInBounds_toArray, List.set_cons_zero, List.set_cons_succ])
  refine wpAnyH_ready (rs := [3, 5]) (by kernel_rfl) (by simp) ?_
  refine AllReadyH.cons (o := _) rfl (fun K hK => ?_) ?_
  · go_simp
    refine hK.out _ _ trivial (fun hHeld => ?_)
    clear hK K
    (try simp only [Act.put, List.getElem_toArray, List.getElem_cons_succ, List.getElem_cons_zero, List.setIfInBounds_toArray, List.set_cons_zero, List.set_cons_succ])
    refine wpAnyH_ready (rs := [5]) (by kernel_rfl) (by simp) ?_
    refine AllReadyH.cons (o := _) rfl (fun K hK => ?_) AllReadyH.nil
    go_simp
    refine (clone_any (.slice q n cc) c H1.out HC.out _ HVd.out).mono ?_
    rintro e1 w1 ⟨v1, rfl, ho, hs⟩
    obtain ⟨q2, n2, c2, rfl⟩ := ho.slice'
    have HO := Lib.hid ho
    have HN1 := Lib.hid (HN.out.same hs)
    have HS1 := Lib.hid hs
    have kc : w1.cell? ⟨bn, 1 + way, none⟩ = some (.slice q1 L c1) := by have := (HN1.out.cell HW.out).1; rw [HR.out] at this; exact this
    have ka : ∀ o, (w1.alloc o).cell? ⟨bn, 1 + way, none⟩ = some (.slice q1 L c1) := fun o => step_cell (Step.alloc w1 o) kc
    clear ho hs
    (try go_wp2_with fail)
    refine hK.out _ _ trivial (fun hHeld => ?_)
    clear hK K
    (try simp only [Act.put, List.getElem_toArray, List.getElem_cons_succ, List.getElem_cons_zero, List.setIfInBounds_toArray, List.set_cons_zero, List.set_cons_succ])
    refine wpAnyH_ready (rs := [6]) (by kernel_rfl) (by simp) ?_
    refine AllReadyH.cons (o := _) rfl (fun K hK => ?_) AllReadyH.nil
    go_simp
    refine hK.out _ _ trivial (fun hHeld => ?_)
    clear hK K
    (try simp only [Act.put, List.getElem_toArray, List.getElem_cons_succ, List.getElem_cons_zero, List.setIfInBounds_toArray, List.set_cons_zero, List.set_cons_succ])
    refine wpAnyH_ready (rs := [7]) (by kernel_rfl) (by simp) ?_
    refine AllReadyH.cons (o := _) rfl (fun K hK => ?_) AllReadyH.nil
    (try simp only [List.getElem_toArray, List.getElem_cons_succ, List.getElem_cons_zero])
    refine step_push rfl _ _ 90 rfl 68 i0 (.slice none 0 0) 24 Try.underlying90 hi hz0 hz1 hz2 rfl B (.slice q1 L c1) ((e1 way).map encS) (by rfl) (by have := (HN1.out.same (Step.alloc w1 (.cells #[.slice q2 n2 c2] 68))).xr way HW.out; rw [HR.out] at this; exact this) rfl ⟨w1.heap.size, 0, none⟩ 1 (.slice q2 n2 c2) (by rfl) (cell_new2 rfl) (by simp [Value.oneCell']) (by have := HL.out; simp; omega) (by omega) (Nat.le_trans HN1.out.size (Step.alloc (S := []) _ _).size) ?_
    intro v' w4 hown hst hblk
    obtain ⟨qa, na, ca, rfl⟩ := hown.slice'
    obtain ⟨hE, hSB, hc, hf, hby⟩ := (HN1.out.same (Step.alloc w1 (.cells #[.slice q2 n2 c2] 68))).push HW.out (s := (q2, n2, c2)) (c := c) (OwnAt.low HN.out.size (HO.out.same (Step.alloc _ _))) (fun g hg k hk j s' hs' => by have h1 := (HO.out.block hg).1; obtain ⟨c9, hc9, ho9⟩ := HN.out.elem hk hs'; exact fun h2 => by have := (ho9.block h2).2.1; omega) (by rw [HR.out]; exact hst) hown (by rw [HR.out]; exact hblk)
    rw [HR.out] at hc
    have HE := Lib.hid hE
    have HBY := Lib.hid (fun v c (h9 : OwnAt B wd 5 v c) => hby v c (((h9.same (Step.drew wd)).same HS1.out).same (Step.alloc _ _)))
    have HSB := Lib.hid ((StepB.of HS1.out).trans ((StepB.of (Step.alloc _ _)).trans hSB))
    have HLV := Lib.hid (show Leaves bn r1 e1 (upd r1 way (.slice qa na ca)) (upd e1 way (e1 way ++ [(q2, n2, c2)])) wd (w4.setCell ⟨bn, 1 + way, none⟩ (.slice qa na ca)) from leaves_push HW.out HR.out ((Step.drew wd).trans HS1.out) hst hblk (fun g hg => (HO.out.block hg).1))
    clear hE hSB hown hst hblk hby
    refine hK.out _ _ trivial (fun hHeld => ?_)
    clear hK K
    (try simp only [Act.put, List.getElem_toArray, List.getElem_cons_succ, List.getElem_cons_zero, List.setIfInBounds_toArray, List.set_cons_zero, List.set_cons_succ])
    refine wpAnyH_take (i := 8) (v := ?v8_5) rfl (by kernel_rfl) (by kernel_rfl) (by kernel_rfl) (fun _ _ _ h => h) (Or.inl ⟨by rfl, ?y8_5⟩) (by assumption) ?r8_5
    case y8_5 => ((try simp only [List.getElem_toArray, List.getElem_cons_succ, List.getElem_cons_zero]); intro w hSw; (try dsimp only at hSw); go_simp; first | done | with_reducible rfl)
    (try simp only [Act.put, List.getElem_toArray, List.getElem_cons_succ, List.getElem_cons_zero, List.setIfInBounds_toArray, List.set_cons_zero, List.set_cons_succ])
    refine wpAnyH_ready (rs := [9]) (by kernel_rfl) (by simp) ?_
    refine AllReadyH.cons (o := _) rfl (fun K hK => ?_) AllReadyH.nil
    go_simp
    refine hK.out _ _ trivial (fun hHeld => ?_)
    clear hK K
    (try simp only [Act.put, List.getElem_toArray, List.getElem_cons_succ, List.getElem_cons_zero, List.setIfInBounds_toArray, List.set_cons_zero, List.set_cons_succ])
    refine wpAnyH_done (by kernel_rfl) ?_ _
    refine NoPanic.normal ?_
    clear hHeld
    go_wp2
    go_ret2
    exact ⟨rfl, _, _, full_out HDD.out HE.out, HSD.out.trans ((StepB.of (Step.drew _)).trans HSB.out), fun v c h9 => HBY.out v c (HBD.out v c h9), HLD.out.1.trans HLV.out HLD.out.2⟩
  refine AllReadyH.cons (o := _) rfl (fun K hK => ?_) ?_
  · go_simp
    refine (clone_any (.slice q n cc) c H1.out HC.out _ HVd.out).mono ?_
    rintro e1 w1 ⟨v1, rfl, ho, hs⟩
    obtain ⟨q2, n2, c2, rfl⟩ := ho.slice'
    have HO := Lib.hid ho
    have HN1 := Lib.hid (HN.out.same hs)
    have HS1 := Lib.hid hs
    have kc : w1.cell? ⟨bn, 1 + way, none⟩ = some (.slice q1 L c1) := by have := (HN1.out.cell HW.out).1; rw [HR.out] at this; exact this
    have ka : ∀ o, (w1.alloc o).cell? ⟨bn, 1 + way, none⟩ = some (.slice q1 L c1) := fun o => step_cell (Step.alloc w1 o) kc
    clear ho hs
    (try go_wp2_with fail)
    refine hK.out _ _ trivial (fun hHeld => ?_)
    clear hK K
    (try simp only [Act.put, List.getElem_toArray, List.getElem_cons_succ, List.getElem_cons_zero, List.setIfInBounds_toArray, List.set_cons_zero, List.set_cons_succ])
    refine wpAnyH_ready (rs := [3, 6]) (by kernel_rfl) (by simp) ?_
    refine AllReadyH.cons (o := _) rfl (fun K hK => ?_) ?_
    · go_simp
      refine hK.out _ _ trivial (fun hHeld => ?_)
      clear hK K
      (try simp only [Act.put, List.getElem_toArray, List.getElem_cons_succ, List.getElem_cons_zero, List.setIfInBounds_toArray, List.set_cons_zero, List.set_cons_succ])
      refine wpAnyH_ready (rs := [6]) (by kernel_rfl) (by simp) ?_
      refine AllReadyH.cons (o := _) rfl (fun K hK => ?_) AllReadyH.nil
      go_simp
      refine hK.out _ _ trivial (fun hHeld => ?_)
      clear hK K
      (try simp only [Act.put, List.getElem_toArray, List.getElem_cons_succ, List.getElem_cons_zero, List.setIfInBounds_toArray, List.set_cons_zero, List.set_cons_succ])
      refine wpAnyH_ready (rs := [7]) (by kernel_rfl) (by simp) ?_
      refine AllReadyH.cons (o := _) rfl (fun K hK => ?_) AllReadyH.nil
      (try simp only [List.getElem_toArray, List.getElem_cons_succ, List.getElem_cons_zero])
      refine step_push rfl _ _ 90 rfl 68 i0 (.slice none 0 0) 24 Try.underlying90 hi hz0 hz1 hz2 rfl B (.slice q1 L c1) ((e1 way).map encS) (by rfl) (by have := (HN1.out.same (Step.alloc w1 (.cells #[.slice q2 n2 c2] 68))).xr way HW.out; rw [HR.out] at this; exact this) rfl ⟨w1.heap.size, 0, none⟩ 1 (.slice q2 n2 c2) (by rfl) (cell_new2 rfl) (by simp [Value.oneCell']) (by have := HL.out; simp; omega) (by omega) (Nat.le_trans HN1.out.size (Step.alloc (S := []) _ _).size) ?_
      intro v' w4 hown hst hblk
      obtain ⟨qa, na, ca, rfl⟩ := hown.slice'
      obtain ⟨hE, hSB, hc, hf, hby⟩ := (HN1.out.same (Step.alloc w1 (.cells #[.slice q2 n2 c2] 68))).push HW.out (s := (q2, n2, c2)) (c := c) (OwnAt.low HN.out.size (HO.out.same (Step.alloc _ _))) (fun g hg k hk j s' hs' => by have h1 := (HO.out.block hg).1; obtain ⟨c9, hc9, ho9⟩ := HN.out.elem hk hs'; exact fun h2 => by have := (ho9.block h2).2.1; omega) (by rw [HR.out]; exact hst) hown (by rw [HR.out]; exact hblk)
      rw [HR.out] at hc
      have HE := Lib.hid hE
      have HBY := Lib.hid (fun v c (h9 : OwnAt B wd 5 v c) => hby v c (((h9.same (Step.drew wd)).same HS1.out).same (Step.alloc _ _)))
      have HSB := Lib.hid ((StepB.of HS1.out).trans ((StepB.of (Step.alloc _ _)).trans hSB))
      have HLV := Lib.hid (show Leaves bn r1 e1 (upd r1 way (.slice qa na ca)) (upd e1 way (e1 way ++ [(q2, n2, c2)])) wd (w4.setCell ⟨bn, 1 + way, none⟩ (.slice qa na ca)) from leaves_push HW.out HR.out ((Step.drew wd).trans HS1.out) hst hblk (fun g hg => (HO.out.block hg).1))
      clear hE hSB hown hst hblk hby
      refine hK.out _ _ trivial (fun hHeld => ?_)
      clear hK K
      (try simp only [Act.put, List.getElem_toArray, List.getElem_cons_succ, List.getElem_cons_zero, List.setIfInBounds_toArray, List.set_cons_zero, List.set_cons_succ])
      refine wpAnyH_take (i := 8) (v := ?v8_6) rfl (by kernel_rfl) (by kernel_rfl) (by kernel_rfl) (fun _ _ _ h => h) (Or.inl ⟨by rfl, ?y8_6⟩) (by assumption) ?r8_6
      case y8_6 => ((try simp only [List.getElem_toArray, List.getElem_cons_succ, List.getElem_cons_zero]); intro w hSw; (try dsimp only at hSw); go_simp; first | done | with_reducible rfl)
      (try simp only [Act.put, List.getElem_toArray, List.getElem_cons_succ, List.getElem_cons_zero, List.setIfInBounds_toArray, List.set_cons_zero, List.set_cons_succ])
      refine wpAnyH_ready (rs := [9]) (by kernel_rfl) (by simp) ?_
      refine AllReadyH.cons (o := _) rfl (fun K hK => ?_) AllReadyH.nil
      go_simp
      refine hK.out _ _ trivial (fun hHeld => ?_)
      clear hK K
      (try simp only [Act.put, List.getElem_toArray, List.getElem_cons_succ, List.getElem_cons_zero, List.setIfInBounds_toArray, List.set_cons_zero, List.set_cons_succ])
      refine wpAnyH_done (by kernel_rfl) ?_ _
      refine NoPanic.normal ?_
      clear hHeld
      go_wp2
      go_ret2
      exact ⟨rfl, _, _, full_out HDD.out HE.out, HSD.out.trans ((StepB.of (Step.drew _)).trans HSB.out), fun v c h9 => HBY.out v c (HBD.out v c h9), HLD.out.1.trans HLV.out HLD.out.2⟩
    refine AllReadyH.cons (o := _) rfl (fun K hK => ?_) ?_
    · go_simp
      refine hK.out _ _ trivial (fun hHeld => ?_)
      clear hK K
      (try simp only [Act.put, List.getElem_toArray, List.getElem_cons_succ, List.getElem_cons_zero, List.setIfInBounds_toArray, List.set_cons_zero, List.set_cons_succ])
      refine wpAnyH_ready (rs := [3]) (by kernel_rfl) (by simp) ?_
      refine AllReadyH.cons (o := _) rfl (fun K hK => ?_) AllReadyH.nil
      go_simp
      refine hK.out _ _ trivial (fun hHeld => ?_)
      clear hK K
      (try simp only [Act.put, List.getElem_toArray, List.getElem_cons_succ, List.getElem_cons_zero, List.setIfInBounds_toArray, List.set_cons_zero, List.set_cons_succ])
      refine wpAnyH_ready (rs := [7]) (by kernel_rfl) (by simp) ?_
      refine AllReadyH.cons (o := _) rfl (fun K hK => ?_) AllReadyH.nil
      (try simp only [List.getElem_toArray, List.getElem_cons_succ, List.getElem_cons_zero])
      refine step_push rfl _ _ 90 rfl 68 i0 (.slice none 0 0) 24 Try.underlying90 hi hz0 hz1 hz2 rfl B (.slice q1 L c1) ((e1 way).map encS) (by rfl) (by have := (HN1.out.same (Step.alloc w1 (.cells #[.slice q2 n2 c2] 68))).xr way HW.out; rw [HR.out] at this; exact this) rfl ⟨w1.heap.size, 0, none⟩ 1 (.slice q2 n2 c2) (by rfl) (cell_new2 rfl) (by simp [Value.oneCell']) (by have := HL.out; simp; omega) (by omega) (Nat.le_trans HN1.out.size (Step.alloc (S := []) _ _).size) ?_
      intro v' w4 hown hst hblk
      obtain ⟨qa, na, ca, rfl⟩ := hown.slice'
      obtain ⟨hE, hSB, hc, hf, hby⟩ := (HN1.out.same (Step.alloc w1 (.cells #[.slice q2 n2 c2] 68))).push HW.out (s := (q2, n2, c2)) (c := c) (OwnAt.low HN.out.size (HO.out.same (Step.alloc _ _))) (fun g hg k hk j s' hs' => by have h1 := (HO.out.block hg).1; obtain ⟨c9, hc9, ho9⟩ := HN.out.elem hk hs'; exact fun h2 => by have := (ho9.block h2).2.1; omega) (by rw [HR.out]; exact hst) hown (by rw [HR.out]; exact hblk)
      rw [HR.out] at hc
      have HE := Lib.hid hE
      have HBY := Lib.hid (fun v c (h9 : OwnAt B wd 5 v c) => hby v c (((h9.same (Step.drew wd)).same HS1.out).same (Step.alloc _ _)))
      have HSB := Lib.hid ((StepB.of HS1.out).trans ((StepB.of (Step.alloc _ _)).trans hSB))
      have HLV := Lib.hid (show Leaves bn r1 e1 (upd r1 way (.slice qa na ca)) (upd e1 way (e1 way ++ [(q2, n2, c2)])) wd (w4.setCell ⟨bn, 1 + way, none⟩ (.slice qa na ca)) from leaves_push HW.out HR.out ((Step.drew wd).trans HS1.out) hst hblk (fun g hg => (HO.out.block hg).1))
      clear hE hSB hown hst hblk hby
      refine hK.out _ _ trivial (fun hHeld => ?_)
      clear hK K
      (try simp only [Act.put, List.getElem_toArray, List.getElem_cons_succ, List.getElem_cons_zero, List.setIfInBounds_toArray, List.set_cons_zero, List.set_cons_succ])
      refine wpAnyH_take (i := 8) (v := ?v8_7) rfl (by kernel_rfl) (by kernel_rfl) (by kernel_rfl) (fun _ _ _ h => h) (Or.inl ⟨by rfl, ?y8_7⟩) (by assumption) ?r8_7
      case y8_7 => ((try simp only [List.getElem_toArray, List.getElem_cons_succ, List.getElem_cons_zero]); intro w hSw; (try dsimp only at hSw); go_simp; first | done | with_reducible rfl)
      (try simp only [Act.put, List.getElem_toArray, List.getElem_cons_succ, List.getElem_cons_zero, List.setIfInBounds_toArray, List.set_cons_zero, List.set_cons_succ])
      refine wpAnyH_ready (rs := [9]) (by kernel_rfl) (by simp) ?_
      refine AllReadyH.cons (o := _) rfl (fun K hK => ?_) AllReadyH.nil
      go_simp
      refine hK.out _ _ trivial (fun hHeld => ?_)
      clear hK K
      (try simp only [Act.put, List.getElem_toArray, List.getElem_cons_succ, List.getElem_cons_zero, List.setIfInBounds_toArray, List.set_cons_zero, List.set_cons_succ])
      refine wpAnyH_done (by kernel_rfl) ?_ _
      refine NoPanic.normal ?_
      clear hHeld
      go_wp2
      go_ret2
      exact ⟨rfl, _, _, full_out HDD.out HE.out, HSD.out.trans ((StepB.of (Step.drew _)).trans HSB.out), fun v c h9 => HBY.out v c (HBD.out v c h9), HLD.out.1.trans HLV.out HLD.out.2⟩
    exact AllReadyH.nil
  exact AllReadyH.nil

theorem send_full (B bn way : Nat) (hw : way < 2) (r : Nat → Value) (e : Nat → List Sl) (d : Nat → List (List Value)) (v : Value) (c : List Value) (h1c : ∀ u ∈ c, u.oneCell' = true) (hc : c.length ≤ 600) (hl : 64 ≤ (e way).length) (hl2 : (e way).length < 1000) (w : World) (h : NetAt B w bn r e d) (hv : Reads w v c) (h5 : V5 w v) :
    Calls Try.prog 29 #[.pointer (some ⟨bn, 0, none⟩), .int .i64 (way : Int), v] w fun e_ w' => e_ = .returned (.tuple #[.bool true, .int .i64 0]) ∧ ∃ r' e', NetAt B w' bn r' e' (upd d way ((d way).eraseIdx 0 ++ [c])) ∧ StepB B w w' ∧ (∀ v c, OwnAt B w 5 v c → OwnAt B w' 5 v c) := by
  refine (send_fullx B bn way hw r e d v c h1c hc hl hl2 w h hv h5).mono ?_
  rintro e1 w' ⟨rfl, r', s, hN, hs, hby, _⟩
  exact ⟨rfl, r', s, hN, hs, hby⟩
end Go.Proofs.Ytnomnhlfenhjdaa
