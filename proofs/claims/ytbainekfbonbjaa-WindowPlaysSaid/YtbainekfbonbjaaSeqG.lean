/- Span.Missing, wakes: contracts. -/
import Derived.Test.YtbainekfbonbjaaSeqF
import Derived.OwnWalkIn
import Derived.TacticsInMore
import Derived.LoopNIn
import Derived.LoopIn
import Derived.Deep.QuietTactic
import Derived.BigQuiet
import Derived.Maps.OwnIn
namespace Go.Proofs.Ytbainekfbonbjaa
open Go.RowKit Go.Shelf
set_option linter.unusedVariables false
attribute [local go_sem] Oper.semAt_some

/-- What Span.Missing hands back, and the blocks that it lays. -/
theorem missing_any (f t : Int) (sf : FuncId) (slb : Array Value) (w : World) : Calls Try.prog 19 #[.agg #[.int .u32 f, .int .u32 t], .func (.func sf) #[] slb] w fun e w' =>
    e = .returned (.func (.func 107) #[] #[.pointer (some ⟨w.heap.size + 1 + 1 + 1, 0, none⟩), .pointer (some ⟨w.heap.size + 1 + 1 + 1 + 1, 0, none⟩)]) ∧
    ((((w.alloc (.cells #[.int .u32 f, .int .u32 t] 25)).alloc (.cells #[.func (.func sf) #[] slb] 27)).alloc (.cells #[.int .u32 f, .int .u32 t] 25)).alloc (.cells #[.func (.func 87) #[] #[.pointer (some ⟨w.heap.size + 1 + 1, 0, none⟩)]] 28)).alloc (.cells #[.func (.func 82) #[] #[.pointer (some ⟨w.heap.size + 1, 0, none⟩)]] 27) = w' := by
  go_enter Try.func19, Try.ntmps19
  go_wp2_with (first | (go_at_call 28; refine (all_any _ _ _).mono ?_; rintro e w' ⟨rfl, rfl⟩) | (go_at_call 81; refine (those_any _ _ _ _ _).mono ?_; rintro e w' ⟨rfl, rfl⟩))
  go_ret
  exact ⟨rfl, rfl⟩

theorem missing_blocks (f t : Nat) (sf : FuncId) (slb : Array Value) (w w1 : World)
    (hw1 : ((((w.alloc (.cells #[.int .u32 (f : Int), .int .u32 (t : Int)] 25)).alloc (.cells #[.func (.func sf) #[] slb] 27)).alloc (.cells #[.int .u32 (f : Int), .int .u32 (t : Int)] 25)).alloc (.cells #[.func (.func 87) #[] #[.pointer (some ⟨w.heap.size + 1 + 1, 0, none⟩)]] 28)).alloc (.cells #[.func (.func 82) #[] #[.pointer (some ⟨w.heap.size + 1, 0, none⟩)]] 27) = w1) :
    w1.heap.size = w.heap.size + 5 ∧ Step [] w w1 ∧ Boxed w1 (w.heap.size + 1) 27 (.func (.func sf) #[] slb) ∧ w1.heap[w.heap.size + 1 + 1]? = some (spanObj f t) ∧
    Boxed w1 (w.heap.size + 1 + 1 + 1) 28 (.func (.func 87) #[] #[.pointer (some ⟨w.heap.size + 1 + 1, 0, none⟩)]) ∧ Boxed w1 (w.heap.size + 1 + 1 + 1 + 1) 27 (.func (.func 82) #[] #[.pointer (some ⟨w.heap.size + 1, 0, none⟩)]) := by
  refine ⟨by rw [← hw1]; simp, by rw [← hw1]; exact ((((Step.alloc _ _).trans (Step.alloc _ _)).trans (Step.alloc _ _)).trans (Step.alloc _ _)).trans (Step.alloc _ _), ?_, ?_, ?_, ?_⟩ <;>
  · rw [← hw1]; simp only [Boxed, heap_alloc_get, World.size_alloc, spanObj]; repeat first | rfl | rw [if_pos (by omega)] | rw [if_neg (by omega)] | rw [if_pos trivial]

/-- 'func(n) bool { return !have(n) }'. -/
theorem missing1_asks {sf : Nat} {slb : Array Value} (es : Enters Try.prog sf) {q : Nat → Bool} {D : Nat → Prop} {Rs : World → Prop} (hq : Asks sf slb q D Rs) (bh : Nat) :
    Asks 82 #[.pointer (some ⟨bh, 0, none⟩)] (fun x => !q x) D (fun W => Boxed W bh 27 (.func (.func sf) #[] slb) ∧ Rs W) := by
  rintro x W hx ⟨hb, hr⟩
  have c1 := hb.cell
  have es' : ∀ args w, (callFunc sf args).run Try.prog w = .ok (.enter sf args) w := es
  have hc := hq x W hx hr
  show Calls Try.prog 82 #[.int .u32 (x : Int), .pointer (some ⟨bh, 0, none⟩)] W _
  go_enter Try.func82, Try.ntmps82
  go_wp2_with fail
  refine hc.mono ?_
  rintro e w' ⟨rfl, hs⟩
  have HS := Lib.hid hs
  clear hs hq hc
  go_wp2_with fail
  go_ret
  exact ⟨rfl, HS.out⟩

/-- Span.Missing AS AN ITERATOR: rising, what is not had; out of whatever asks of numbers and changes nothing. -/
theorem missing_gives (f t : Nat) (hf : f < 4294967296) (ht : t < 4294967296) {sf : Nat} {slb : Array Value} (es : Enters Try.prog sf) {q : Nat → Bool} {D : Nat → Prop} {Rs : World → Prop} (hq : Asks sf slb q D Rs) (hD : ∀ x, f ≤ x → x < t → D x) (n : Nat) :
    Gives Try.prog 107 #[.pointer (some ⟨n + 1 + 1 + 1, 0, none⟩), .pointer (some ⟨n + 1 + 1 + 1 + 1, 0, none⟩)] encU (fun pre x => pre ++ [x] <+: (List.range' f (t - f)).filter fun x => !q x) (fun ys => ys = (List.range' f (t - f)).filter fun x => !q x)
      (fun W => W.heap[n + 1 + 1]? = some (spanObj f t) ∧ (Boxed W (n + 1 + 1 + 1) 28 (.func (.func 87) #[] #[.pointer (some ⟨n + 1 + 1, 0, none⟩)]) ∧ Boxed W (n + 1 + 1 + 1 + 1) 27 (.func (.func 82) #[] #[.pointer (some ⟨n + 1, 0, none⟩)])) ∧ (Boxed W (n + 1) 27 (.func (.func sf) #[] slb) ∧ Rs W)) :=
  those_gives (fun x h => hD x (range'_mem h).1 (by have := range'_mem h; omega)) (all_gives f t (n + 1 + 1) ht hf) enters87 enters82 _ (missing1_asks es hq (n + 1)) (n + 1 + 1 + 1) (n + 1 + 1 + 1 + 1)

theorem enters83 : Enters Try.prog 83 := enters_of Try.func83 (by kernel_rfl) rfl
theorem enters84 : Enters Try.prog 84 := enters_of Try.func84 (by kernel_rfl) rfl

theorem wakes1_asks : Asks 83 #[] (fun n => n == 4 || n == 5) (fun _ => True) (fun _ => True) := by
  rintro x W _ _
  show Calls Try.prog 83 #[.int .u32 (x : Int)] W _
  by_cases h4 : x = 4
  · subst h4
    go_enter Try.func83, Try.ntmps83
    go_wp2
    go_ret
    exact ⟨rfl, Step.refl _ _⟩
  · by_cases h5 : x = 5
    · subst h5
      go_enter Try.func83, Try.ntmps83
      go_wp2
      go_ret
      exact ⟨rfl, Step.refl _ _⟩
    · have e4 : ((x : Int) == 4) = false := by simp; omega
      have e5 : ((x : Int) == 5) = false := by simp; omega
      have H4 := Lib.hid h4
      have H5 := Lib.hid h5
      clear h4 h5
      go_enter Try.func83, Try.ntmps83
      go_wp2
      go_ret
      exact ⟨by simp [H4.out, H5.out], Step.refl _ _⟩

theorem wakes2_asks : Asks 84 #[] (fun n => n == 10 || n == 12) (Behind 9) (fun _ => True) := by
  rintro x W _ _
  show Calls Try.prog 84 #[.int .u32 (x : Int)] W _
  by_cases h4 : x = 10
  · subst h4
    go_enter Try.func84, Try.ntmps84
    go_wp2
    go_ret
    exact ⟨rfl, Step.refl _ _⟩
  · by_cases h5 : x = 12
    · subst h5
      go_enter Try.func84, Try.ntmps84
      go_wp2
      go_ret
      exact ⟨rfl, Step.refl _ _⟩
    · have e4 : ((x : Int) == 10) = false := by simp; omega
      have e5 : ((x : Int) == 12) = false := by simp; omega
      have H4 := Lib.hid h4
      have H5 := Lib.hid h5
      clear h4 h5
      go_enter Try.func84, Try.ntmps84
      go_wp2
      go_ret
      exact ⟨by simp [H4.out, H5.out], Step.refl _ _⟩

theorem Step.drewN {S : List Nat} (W : World) (n : Nat) : Step S W (W.drewN n) := ⟨rfl, rfl, rfl, Nat.le_refl _, fun _ _ _ => rfl, fun _ _ h _ _ => h⟩

theorem wakes_list : (List.range' 3 (8 - 3)).filter (fun x => !(x == 4 || x == 5)) = [3, 6, 7] := by decide
theorem wakes_mask : maskOf 9 (fun n => n == 10 || n == 12) = 5 := by decide +kernel

set_option maxRecDepth 100000 in
set_option maxHeartbeats 2000000 in
theorem wakes_any (w : World) : Calls Try.prog 23 #[] w fun e w' => e = .returned (.bool true) ∧ Step [] w w' := by
  obtain ⟨i0, hi, hz0, hz1, hz2⟩ := info_parts info22
  refine (callsIn_wide (n := 0)).1 (callsIn_of_wp_marks Try.func23 rfl trivial ?_ rfl)
  simp only [Try.ntmps23, List.size_toArray, List.length_nil, Nat.reduceSub, Array.replicate_succ, Array.replicate_zero, List.push_toArray, List.append_toArray, List.nil_append, List.cons_append]
  have bg := Boxed.new w 26 (.slice none 0 0)
  have s00 : Step [] w (w.alloc (.cells #[.slice none 0 0] 26)) := Step.alloc _ _
  have B0 := Lib.hid bg
  have S0 := Lib.hid s00
  clear bg s00
  gi_wp2_with (first | (gi_at_call 19; refine (inW (missing_any _ _ _ _ _)).mono ?_; rintro e w' ⟨rfl, hw1⟩; have HW1 := Lib.hid hw1; clear hw1) | (gi_at_call 18; refine (inW (safe_any _ _ _)).mono ?_; rintro e w' ⟨rfl, rfl⟩))
  obtain ⟨hz, hs1, h1, hsp, h2, h3⟩ := missing_blocks 3 8 83 #[] _ _ HW1.out
  have bg1 := boxed_step B0.out hs1 (by simp)
  have s0 := S0.out.trans hs1
  simp only [World.size_alloc] at hz h1 hsp h2 h3
  clear HW1 hs1 B0 S0
  obtain ⟨w1, rfl⟩ : ∃ x, x = w' := ⟨_, rfl⟩
  have hg := missing_gives 3 8 (by omega) (by omega) enters83 wakes1_asks (fun _ _ _ => trivial) (w.heap.size + 1)
  rw [wakes_list] at hg
  refine range_outer1 (v := fun x : Nat => .int .u32 (x : Int)) [] rfl enters107 hg (by simp) rfl rfl
    (fun pre W => (∃ v, Boxed W w.heap.size 26 v ∧ OwnU w1.heap.size W v pre) ∧ Step [w.heap.size] w1 W)
    (fun _ _ _ => False) ?hI (fun _ => abide_false _) ?hRd ?h0 ?body ?done ?stop
  case hI =>
    rintro s A B ⟨⟨v, hb, hv⟩, h4⟩ hc
    exact ⟨⟨v, boxed_calm hb hc, row_calm hv hc⟩, h4.calm hc (Nat.le_refl _)⟩
  case hRd =>
    rintro pre W ⟨_, hs⟩
    exact ⟨obj_step hsp hs (fun h => by simp at h <;> omega), ⟨boxed_step h2 hs (fun h => by simp at h <;> omega), boxed_step h3 hs (fun h => by simp at h <;> omega)⟩, boxed_step h1 hs (fun h => by simp at h <;> omega), trivial⟩
  case h0 => exact ⟨⟨_, bg1, ownU_nil _ _⟩, Step.refl _ _⟩
  case body =>
    rintro l pre x W hl _ ⟨⟨v, hb, hv⟩, hs⟩ ha
    have hb' := hb.cell
    have hlen : pre.length ≤ 3 := by
      have := ha.length_le; simp at this; omega
    obtain ⟨ao, cap, rfl⟩ := ownU_slice hv
    have HB := Lib.hid hb
    have HV := Lib.hid hv
    have HS := Lib.hid hs
    have hsz := hs.size
    clear hb hv hs ha hg h1 hsp h2 h3 bg1 s0
    simp [frame1]
    gi_wp2_with (gi_at_builtin; refine wpListIn_append_own_at _ rfl _ _ 26 rfl w1.heap.size 22 i0 (.int .u32 0) 1 4 Try.underlying26 hi hz0 hz1 hz2 rfl (by decide) _ _ _ rfl (HV.out.alloc _) ⟨W.heap.size, 0, none⟩ 1 1 [.int .u32 (x : Int)] rfl rfl (cell_one_new _ _ _) (by simp [Value.oneCell']) (by unfold maxLen; omega) (by omega) (by simp; omega) ?_; intro v' w2 hown' hgrow _ hat; obtain ⟨g', cap', rfl⟩ := ownsRow_succ hown'; obtain ⟨hv1, hv2, hr2, hs2, hat2⟩ := appended HB.out (by decide) rfl rfl HV.out hown' hgrow hat; have hc1 := hv1.cell; have hf1 := hv1.frozen)
    refine ⟨hs2.book, ⟨_, hv2, ownU_snoc hr2⟩, HS.out.trans' hs2 (fun _ h _ => h) (fun i h hlt => ?_)⟩
    rcases List.mem_cons.1 h with rfl | h
    · simp
    · have := HV.out.lt i (by simpa using h); omega
  case done =>
    rintro D ys W hD rfl ⟨⟨v, hb, hv⟩, hs⟩ hd
    have hb' := hb.cell
    have hst : Step [] w W := s0.trans' hs (fun _ h _ => h) (fun i hi hl => by simp at hi; omega)
    obtain ⟨Wa, hWa⟩ : ∃ Wa, W.alloc (.cells #[.int .u32 3, .int .u32 6, .int .u32 7] 22) = Wa := ⟨_, rfl⟩
    have sa : Step [] W Wa := by rw [← hWa]; exact Step.alloc _ _
    have hN1 : IsN .u32 Wa v [3, 6, 7] := isN_step (S := []) hv.isN sa
    have hN2 : IsN .u32 Wa (.slice (some ⟨W.heap.size, 0, none⟩) 3 3) [3, 6, 7] := ⟨_, 3, rfl, by simp, by simp [maxLen], fun _ => ⟨_, _, rfl, fun i hi => by
      rw [← hWa]; simp only [World.cell?_alloc_new, Nat.zero_add]
      match i, hi with
      | 0, _ => rfl
      | 1, _ => rfl
      | 2, _ => rfl⟩⟩
    have H1 := Lib.hid hN1
    have H2 := Lib.hid hN2
    have HST := Lib.hid hst
    have SA := Lib.hid sa
    have HD := Lib.hid hd
    clear hb hv hs hN1 hN2 hst sa hd hg h1 hsp h2 h3 bg1 s0
    gi_wp2_with (first | (gi_at_call 20; refine (inW (equal_any _ _ [3, 6, 7] [3, 6, 7] _ H1.out H2.out)).mono ?_; rintro e w3 ⟨rfl, n, rfl⟩) | (gi_at_call 31; refine (inW (mask_any 9 (by omega) enters84 _ wakes2_asks _ (fun _ _ => trivial))).mono ?_; rintro e w4 ⟨rfl, hm⟩; rw [wakes_mask]; have HM := Lib.hid hm; clear hm))
    have hfin : Step [] W w4 := (SA.out.trans (Step.drewN Wa n)).trans HM.out
    refine leaves_marks (B := w.heap.size) (results_tmp rfl _ _) [D] _ (by simp; exact ⟨by omega, hfin.book _ _ HD.out rfl (by simp)⟩) (by simp) ?_
    intro w' hc
    exact ⟨rfl, (HST.out.trans hfin).calm hc (Nat.le_refl _)⟩
  case stop =>
    rintro D c pre W hD h hd
    exact h.elim
end Go.Proofs.Ytbainekfbonbjaa
