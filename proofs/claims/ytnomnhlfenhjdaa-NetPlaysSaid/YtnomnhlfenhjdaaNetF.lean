/- net: Deliver, Flip's refusals. No statement is proved here; nothing is assumed. -/
import Derived.Test.YtnomnhlfenhjdaaNetE
import Derived.Deep.RegionLaw
import Derived.Deep.RegionLawGrows
import Derived.OwnWalkIn
import Derived.TacticsInMore
import Derived.LoopNIn
import Derived.LoopIn
import Derived.Deep.QuietTactic
import Derived.BigQuiet
import Derived.Maps.OwnIn
import Derived.Deep.RegionHeld3
import Derived.Laws.Bits64
namespace Go.Proofs.Ytnomnhlfenhjdaa
open Go.RowKit Go.Shelf
set_option linter.unusedVariables false
set_option linter.unusedSimpArgs false
attribute [local go_sem] Oper.semAt_some




/-- One element fewer in a row. -/
theorem NetAt.drop {B : Nat} {W W' : World} {bn : Nat} {r : Nat → Value} {e : Nat → List Sl} {d : Nat → List (List Value)} (h : NetAt B W bn r e d) {way i : Nat} (hw : way < 2) (hi : i < (e way).length) {v' : Value}
    (hs : ∀ S, (∀ g, (r way).ownBlock = some g → g ∈ S) → Step S W W') (hown : OwnAt B W' 68 v' (((e way).eraseIdx i).map encS)) (hb : v'.ownBlock = (r way).ownBlock) :
    NetAt B (W'.setCell ⟨bn, 1 + way, none⟩ v') bn (upd r way v') (upd e way ((e way).eraseIdx i)) (upd d way ((d way).eraseIdx i)) ∧ StepB B W (W'.setCell ⟨bn, 1 + way, none⟩ v') ∧ W'.cell? ⟨bn, 1 + way, none⟩ = some (r way) ∧ W'.frozen? ⟨bn, 1 + way, none⟩ = false ∧ (∀ v c, OwnAt B W 5 v c → OwnAt B (W'.setCell ⟨bn, 1 + way, none⟩ v') 5 v c) := by
  have hs1 := hs ((r way).ownBlock.toList) (fun g hg => by simp [hg])
  have hgo : ∀ {s : Sl} {c : List Value}, OwnAt B W 5 (encS s) c → OwnAt B W' 5 (encS s) c := fun h3 => h3.step hs1 (fun g hg hm => by
    simp at hm
    obtain ⟨_, _, c1, hc1⟩ := h3.block hg
    obtain ⟨_, _, c2, hc2⟩ := (h.xr way hw).block hm
    exact ne_types hc1 hc2 (by decide) rfl)
  have hlen := h.xl way hw
  have hat : ∀ {α : Type} (l : List α) (j : Nat), (l.eraseIdx i)[j]? = l[if j < i then j else j + 1]? := fun l j => by
    rw [List.getElem?_eraseIdx]; split <;> rfl
  refine h.turn hw hs hown (fun g hg => .inl (hb ▸ hg)) (by rw [List.length_eraseIdx_of_lt hi, List.length_eraseIdx_of_lt (by omega), hlen]) (fun j s1 c1 h1 h2 => ?_) (fun k' j j' s1 s2 g hk' h1 h2 h3 h4 => ?_)
  · rw [hat] at h1 h2
    exact hgo (h.xd way hw _ s1 c1 h1 h2)
  · rw [hat] at h1
    by_cases hkw : k' = way
    · subst hkw
      rw [upd_same, hat] at h2
      have h5 := (h.ne k' k' _ _ s1 s2 g hk' hk' h1 h2 h3 h4).2
      refine ⟨rfl, ?_⟩
      by_cases a1 : j < i <;> by_cases a2 : j' < i <;> simp [a1, a2] at h5 <;> omega
    · rw [upd_other _ _ hkw] at h2
      exact absurd (h.ne way k' _ _ s1 s2 g hw hk' h1 h2 h3 h4).1 (fun e => hkw e.symm)

set_option maxRecDepth 100000 in
set_option maxHeartbeats 4000000 in
theorem deliver_okx (B bn way i : Nat) (hw : way < 2) (r : Nat → Value) (e : Nat → List Sl) (d : Nat → List (List Value)) (hi : i < (e way).length) (hl : (e way).length < 1000) (w : World) (h : NetAt B w bn r e d) :
    Calls Try.prog 33 #[.pointer (some ⟨bn, 0, none⟩), .int .i64 (way : Int), .int .i64 (i : Int)] w fun e_ w' => ∃ s c, (e way)[i]? = some s ∧ (d way)[i]? = some c ∧ e_ = .returned (.tuple #[encS s, .int .i64 0]) ∧ OwnAt B w' 5 (encS s) c ∧
      ∃ r', NetAt B w' bn (upd r way r') (upd e way ((e way).eraseIdx i)) (upd d way ((d way).eraseIdx i)) ∧ StepB B w w' ∧ (∀ v c, OwnAt B w 5 v c → OwnAt B w' 5 v c) ∧ Leaves bn r e (upd r way r') (upd e way ((e way).eraseIdx i)) w w' := by
  obtain ⟨s, hs⟩ : ∃ s, (e way)[i]? = some s := ⟨_, List.getElem?_eq_getElem hi⟩
  obtain ⟨c, hc, ho⟩ := h.elem hw hs
  obtain ⟨g, off, c1, hr, hc1, hm1, hel⟩ := (h.xr way hw).at (j := i) (x := encS s) (by simp [hs])
  rw [List.length_map] at hr hc1
  obtain ⟨hcell, hfr⟩ := h.cell hw
  rw [hr] at hcell
  obtain ⟨L, hL⟩ : ∃ L, L = (e way).length := ⟨_, rfl⟩
  rw [← hL] at hcell hr hc1
  have H := Lib.hid h
  have HW := Lib.hid hw
  have HR := Lib.hid hr
  have HI := Lib.hid hi
  have HRO := Lib.hid ((h.rowOf hw).trans hr)
  have HSS := Lib.hid (And.intro hs (And.intro hc ho))
  have HDEL := Lib.hid (fun X (hX : NetAt B X bn r e d) => delete_any B (r way) (e way) i hi X (hX.xr way hw))
  have hiL : i < L := by omega
  have hcm : (c1 : Int) ≤ 9223372036854775807 := by unfold maxLen at hm1; omega
  have hlc : (L : Int) ≤ (c1 : Int) := by omega
  have hL1 : (L : Int) ≤ 1000 := by omega
  have hwi : IntKind.i64.wrap ((i : Int) + 1) = (i : Int) + 1 := by rw [IntKind.wrap_i64]; omega
  obtain ⟨sa, sn, sc⟩ := s
  have hel : w.cell? ⟨g, off + i, none⟩ = some (.slice sa sn sc) := hel
  clear h hw hr hi hl hc1 hm1 hL hs hc ho
  go_enter Try.func33, Try.ntmps33
  go_wp2_with (go_at_call 48; refine (at_ok bn way i (r 0) (r 1) _ L c1 HW.out HRO.out hiL _ H.out.xo).mono ?_; rintro e w' ⟨rfl, rfl⟩)
  have hd := HDEL.out w H.out
  rw [HR.out] at hd
  refine hd.mono ?_
  clear hd
  rintro e1 w1 ⟨v1, rfl, hown, hst, hbk⟩
  obtain ⟨qa, na, ca, rfl⟩ := hown.slice'
  obtain ⟨hE, hSB, hc2, hf2, hby⟩ := H.out.drop HW.out HI.out (by rw [HR.out]; exact hst) hown (by rw [HR.out]; exact hbk)
  have ho2 : OwnAt B (w1.setCell ⟨bn, 1 + way, none⟩ (.slice qa na ca)) 5 (encS (sa, sn, sc)) c := by
    have h1 := HSS.out.2.2
    have hs1 := hst [g] (fun k hk => by cases hk; simp)
    have h2 := h1.step hs1 (fun k hk hm => by
      simp at hm
      subst hm
      obtain ⟨_, _, cc1, hcc1⟩ := h1.block hk
      obtain ⟨_, _, cc2, hcc2⟩ := (H.out.xr way HW.out).block (g := k) (by rw [HR.out]; rfl)
      exact ne_types hcc1 hcc2 (by decide) rfl)
    have xo' : NetObj w1 bn (r 0) (r 1) := obj_step H.out.xo hs1 (fun hm => by
      simp at hm
      exact (H.out.rowBlock (g := g) HW.out (by rw [HR.out]; rfl)).2.2 hm.symm)
    have hset : Step [bn] w1 (w1.setCell ⟨bn, 1 + way, none⟩ (.slice qa na ca)) := Step.setObj xo' rfl (by simp) _ _
    exact h2.step hset (fun k hk => by
      obtain ⟨_, _, cc1, hcc1⟩ := h2.block hk
      simp
      exact ne_types hcc1 xo' (by decide))
  rw [HR.out] at hc2
  have HE := Lib.hid (And.intro hE (And.intro hSB ho2))
  have HBY := Lib.hid hby
  have HLV := Lib.hid (show Leaves bn r e (upd r way (.slice qa na ca)) (upd e way ((e way).eraseIdx i)) w (w1.setCell ⟨bn, 1 + way, none⟩ (.slice qa na ca)) from leaves_drop HW.out HR.out hst hbk)
  clear hE hSB ho2 hown hst hbk hby
  go_wp2
  go_ret2
  exact ⟨_, _, HSS.out.1, HSS.out.2.1, rfl, HE.out.2.2, _, HE.out.1, HE.out.2.1, HBY.out, HLV.out⟩
theorem deliver_ok (B bn way i : Nat) (hw : way < 2) (r : Nat → Value) (e : Nat → List Sl) (d : Nat → List (List Value)) (hi : i < (e way).length) (hl : (e way).length < 1000) (w : World) (h : NetAt B w bn r e d) :
    Calls Try.prog 33 #[.pointer (some ⟨bn, 0, none⟩), .int .i64 (way : Int), .int .i64 (i : Int)] w fun e_ w' => ∃ s c, (e way)[i]? = some s ∧ (d way)[i]? = some c ∧ e_ = .returned (.tuple #[encS s, .int .i64 0]) ∧ OwnAt B w' 5 (encS s) c ∧
      ∃ r', NetAt B w' bn (upd r way r') (upd e way ((e way).eraseIdx i)) (upd d way ((d way).eraseIdx i)) ∧ StepB B w w' ∧ (∀ v c, OwnAt B w 5 v c → OwnAt B w' 5 v c) := by
  refine (deliver_okx B bn way i hw r e d hi hl w h).mono ?_
  rintro e1 w' ⟨s, c, h1, h2, rfl, ho, r', hN, hs, hby, _⟩
  exact ⟨s, c, h1, h2, rfl, ho, r', hN, hs, hby⟩
end Go.Proofs.Ytnomnhlfenhjdaa
