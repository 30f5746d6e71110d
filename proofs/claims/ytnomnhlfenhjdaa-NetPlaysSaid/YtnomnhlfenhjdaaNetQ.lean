/- net: All, the refusals of Deliver, Double, Flip, Send. No statement is proved here; nothing is assumed. -/
import Derived.Test.YtnomnhlfenhjdaaNetP
import Derived.Test.YtnomnhlfenhjdaaNetO
import Derived.OwnWalkIn
import Derived.TacticsInMore
import Derived.LoopNIn
import Derived.LoopIn
import Derived.Deep.QuietTactic
import Derived.BigQuiet
import Derived.Maps.OwnIn
namespace Go.Proofs.Ytnomnhlfenhjdaa
open Go.RowKit Go.Shelf
set_option linter.unusedVariables false
set_option linter.unusedSimpArgs false
attribute [local go_sem] Oper.semAt_some

theorem run_equalIn_func_nil (P : Program) (w : World) (d : Nat) (t : TypeId) (f : Fn) (x y : Array Value) (h : ∃ ps rs v, P.underlying t = some (.func ps rs v)) :
    (Op.equalIn (d + 1) t (.func f x y) .nilFunc).run P w = .ok false w := by
  obtain ⟨ps, rs, v, h⟩ := h
  simp [Op.equalIn, run_underlying h]
theorem run_eql_func_nil (P : Program) (w : World) (t : TypeId) (f : Fn) (x y : Array Value) (h : ∃ ps rs v, P.underlying t = some (.func ps rs v)) :
    (binOp .eql t (.func f x y) .nilFunc).run P w = .ok (.bool false) w := by
  simp only [binOp]
  simp [Op.equal, Op.maxDepth, run_equalIn_func_nil P w 9999 t f x y h]
theorem safe_any (f : Nat) (lb : Array Value) (w : World) : Calls Try.prog 35 #[.func (.func f) #[] lb] w fun e w' => e = .returned (.func (.func f) #[] lb) ∧ w = w' := by
  have q28 := fun (w : World) => run_eql_func_nil Try.prog w 86 (.func f) #[] lb ⟨_, _, _, Try.underlying86⟩
  go_enter Try.func35, Try.ntmps35
  go_wp2
  go_ret
  exact ⟨rfl, rfl⟩
theorem netAll_any (p : Option Addr) (way : Int) (w : World) : Calls Try.prog 36 #[.pointer p, .int .i64 way] w fun e w' => e = .returned (.func (.func 50) #[] #[.pointer (some ⟨w.heap.size, 0, none⟩), .pointer (some ⟨w.heap.size + 1, 0, none⟩)]) ∧ (w.alloc (.cells #[.pointer p] 70)).alloc (.cells #[.int .i64 way] 3) = w' := by
  go_enter Try.func36, Try.ntmps36
  go_wp2
  go_ret
  exact ⟨rfl, rfl⟩

theorem Step.toCalm {B : Nat} {W W' : World} (h : Step [] W W') : Calm B W W' :=
  ⟨h.os, h.tape, h.output, h.size, fun k o hk _ => (h.same k (heap_lt hk) (by simp)).trans hk⟩

/-- What holds where All hands out a datagram: k: its place; v: the datagram; row: the row that All has cloned. -/
def AllMid (B' way : Nat) (e : Nat → List Sl) (d : Nat → List (List Value)) (I : Nat → World → Prop) (s : Nat × Value × Value) (W : World) : Prop :=
  s.1 < (d way).length ∧ I s.1 W ∧ OwnAt B' W 68 s.2.2 ((e way).map encS) ∧ ∃ c, (d way)[s.1]? = some c ∧ OwnAt B' W 5 s.2.1 c
def AllPn (B' way : Nat) (e : Nat → List Sl) (I : Nat → World → Prop) (s : Nat × Value × Value) (W : World) : Prop :=
  I (s.1 + 1) W ∧ OwnAt B' W 68 s.2.2 ((e way).map encS)
theorem OwnAt.calm {B B' : Nat} {W W' : World} {e : TypeId} {v : Value} {vals : List Value} (h : OwnAt B W e v vals) (hc : Calm B' W W') : OwnAt B W' e v vals := by
  rcases h with h | ⟨g, off, cap, cur, rfl, hb, hg, rest⟩
  · exact .inl h
  · exact .inr ⟨g, off, cap, cur, rfl, hb, obj_calm hg hc rfl, rest⟩

set_option maxRecDepth 100000 in
set_option maxHeartbeats 2000000 in
theorem netAll_gives (B B' bn way b1 b2 : Nat) (hw : way < 2) (r : Nat → Value) (e : Nat → List Sl) (d : Nat → List (List Value)) (h1 : ∀ (j : Nat) c, (d way)[j]? = some c → (∀ u ∈ c, u.oneCell' = true) ∧ c.length < 1000000) (hlen : (d way).length ≤ 64)
    (I : Nat → World → Prop) (hI : ∀ k A C, I k A → Calm B' A C → I k C)
    (hR : ∀ k W, I k W → W.cell? ⟨b1, 0, none⟩ = some (.pointer (some ⟨bn, 0, none⟩)) ∧ W.cell? ⟨b2, 0, none⟩ = some (.int .i64 (way : Int)) ∧ NetAt B W bn r e d)
    (l : Nat) (rc : World → Prop) (Jx : Nat × Value × Value → World → Prop) (W1 : World) (X1 : List Nat) (hsz : B' ≤ W1.heap.size) (hX : ∀ k ∈ X1, k < W1.heap.size) (hrc : ∀ A C, rc A → Calm W1.heap.size A C → rc C) (hrb : ∀ A C, rc A → BookX [] A C → rc C) (hJx : Abide W1.heap.size Jx)
    (hY : ∀ s W', AllMid B' way e d I s W' → rc W' → Yields Try.prog l #[.int .i64 (s.1 : Int), s.2.1] W' (fun e1 W'' => ((e1 = .returned (.bool true) ∧ AllPn B' way e I s W'' ∧ rc W'') ∨ (e1 = .returned (.bool false) ∧ Jx s W'')) ∧ BookX X1 W' W''))
    (h0 : I 0 W1) (hr0 : rc W1) :
    Calls Try.prog 50 (#[.func (.yield l) #[] #[]] ++ #[.pointer (some ⟨b1, 0, none⟩), .pointer (some ⟨b2, 0, none⟩)]) W1 (fun e1 W' => (∃ v, e1 = .returned v) ∧ ((I (d way).length W' ∧ rc W') ∨ ∃ s, Jx s W')) := by
  obtain ⟨k1, k2, hN⟩ := hR _ _ h0
  have H := Lib.hid hN
  have HW := Lib.hid hw
  obtain ⟨q1, c1, hr, hc1, hm1⟩ := (hN.xr way hw).form
  rw [List.length_map] at hr
  obtain ⟨hcell, hfr⟩ := hN.cell hw
  rw [hr] at hcell
  have HRO := Lib.hid ((hN.rowOf hw).trans hr)
  obtain ⟨L, hL⟩ : ∃ L, L = (d way).length := ⟨_, rfl⟩
  have hEL : (e way).length = L := by rw [hL]; exact hN.xl way hw
  rw [hEL] at hcell hr HRO
  have HRR := Lib.hid hr
  have HEL := Lib.hid hEL
  have HL := Lib.hid hL
  rw [← hL] at hlen
  have HRW := Lib.hid (hN.xr way hw)
  clear hN hw hr hc1 hm1 hL hEL hfr
  refine (callsIn_wide (n := 0)).1 (callsIn_of_wp Try.func50 rfl trivial ?_ rfl)
  simp only [Try.ntmps50, List.size_toArray, List.length_cons, List.length_nil, Nat.reduceAdd, Nat.reduceSub, Array.replicate_succ, Array.replicate_zero, List.push_toArray, List.append_toArray, List.nil_append, List.cons_append]
  gi_wp2_with fail
  refine (inW (way_ok bn way (r 0) (r 1) HW.out _ H.out.xo)).mono ?_
  rintro e1 w' ⟨rfl, rfl⟩
  gi_wp2_with fail
  have hra : Reads W1 (.slice q1 L c1) ((e way).map encS) := by have := HRW.out.reads; rw [HRR.out] at this; exact this
  refine (inW (cloneRows_any (.slice q1 L c1) ((e way).map encS) (fun u hu => by obtain ⟨s, _, rfl⟩ := List.mem_map.1 hu; rfl) (by simp [HEL.out]; omega) W1 hra)).mono ?_
  rintro e1 W2 ⟨v2, rfl, ho, hs⟩
  obtain ⟨q2, c2, rfl, hc2, hm2⟩ := ho.form
  rw [List.length_map, HEL.out] at ho hc2 ⊢
  have hcm : (c2 : Int) ≤ 9223372036854775807 := by unfold maxLen at hm2; omega
  have HO := Lib.hid (ho.low hsz)
  have HI := Lib.hid (show I 0 W2 ∧ rc W2 from ⟨hI _ _ _ h0 hs.toCalm, hrc _ _ hr0 hs.toCalm⟩)
  have HIa := Lib.hid hI
  have HRa := Lib.hid hR
  have HRC := Lib.hid hrc
  have HY := Lib.hid hY
  have H1 := Lib.hid h1
  clear ho hs hra k1 k2 hcell h0 hr0 hI hR hrc hrb hJx hY h1 hX hsz hm2 HRW HRR HRO H
  gi_wp2_with fail
  gi_loopw [21] (fun i wr => ∃ k : Nat, k ≤ L ∧ i = .int .i64 (k : Int) ∧ Hid ((I k wr ∧ rc wr) ∧ OwnAt B' wr 68 (.slice q2 L c2) ((e way).map encS))) (fun i wr => L - (intOf i).toNat)
  case atStart => exact ⟨0, by omega, rfl, ⟨HI.out, HO.out⟩⟩
  case round =>
    obtain ⟨k, hk, rfl, hI⟩ := hrel
    clear HI HO
    by_cases hlt : k < L
    · obtain ⟨s, hs⟩ : ∃ s, (e way)[k]? = some s := ⟨_, List.getElem?_eq_getElem (by rw [HEL.out]; exact hlt)⟩
      obtain ⟨_, _, hN⟩ := HRa.out _ _ hI.out.1.1
      obtain ⟨c, hc, ho⟩ := hN.elem HW.out hs
      obtain ⟨g, off, c3, hv3, _, _, hcell⟩ := hI.out.2.at (j := k) (x := encS s) (by simp [hs])
      injection hv3 with e1 e2 e3
      subst e1
      clear e2 e3
      obtain ⟨sq, sn, sc⟩ := s
      have hcell : wr.cell? ⟨g, off + k, none⟩ = some (.slice sq sn sc) := hcell
      have hki : (k : Int) < (L : Int) := by omega
      have hLc : (L : Int) ≤ (c2 : Int) := by omega
      have HCC := Lib.hid (show (d way)[k]? = some c ∧ Reads wr (.slice sq sn sc) c from ⟨hc, ho.reads⟩)
      clear hN hs hc ho
      gi_wp2_with fail
      refine (inW (clone_any (.slice sq sn sc) c (H1.out _ _ HCC.out.1).1 (H1.out _ _ HCC.out.1).2 wr HCC.out.2)).mono ?_
      rintro e1 W3 ⟨v3, rfl, ho, hs⟩
      obtain ⟨qv, nv, cv, rfl⟩ := ho.slice'
      obtain ⟨fn, tmps, assign, body, hy, hRR⟩ := HY.out (k, .slice qv nv cv, .slice (some ⟨g, off, none⟩) L c2) W3 ⟨by rw [← HL.out]; exact hlt, HIa.out _ _ _ hI.out.1.1 hs.toCalm, hI.out.2.same hs, c, HCC.out.1, ho.low (by have := hI.out.2.block (g := g) rfl; omega)⟩ (HRC.out _ _ hI.out.1.2 hs.toCalm)
      clear ho hs
      gi_wp2_with fail
      refine hRR.mono ?_
      rintro e1 W4 ⟨(⟨rfl, hp, hrc4⟩ | ⟨rfl, hjx⟩), hb4⟩
      · have HP := Lib.hid (And.intro (And.intro hp.1 hrc4) hp.2)
        clear hp hrc4 hb4
        gi_wp2
        go_roundw
        case rel => exact ⟨k + 1, by omega, by simp, ⟨HP.out.1, HP.out.2⟩⟩
        case measure => simp [intOf]; omega
      · have HP := Lib.hid hjx
        clear hjx hb4
        gi_wp2
        refine bodyPost_ret (results_none rfl _ _ _) rfl ?_
        exact ⟨⟨_, rfl⟩, .inr ⟨_, HP.out⟩⟩
    · obtain rfl : k = L := by omega
      gi_wp2
      go_end0
      exact ⟨⟨_, rfl⟩, .inl (by rw [← HL.out]; exact hI.out.1)⟩
end Go.Proofs.Ytnomnhlfenhjdaa
