/- net: what the document's example says. No statement is proved here; nothing is assumed. -/
import Derived.Test.YtnomnhlfenhjdaaNetI
import Derived.OwnWalkIn
import Derived.TacticsInMore
import Derived.LoopNIn
import Derived.LoopIn
import Derived.Deep.QuietTactic
import Derived.BigQuiet
import Derived.Maps.OwnIn
import Derived.Lib.SlBytesConst
import Derived.Laws.IdiomStrings
namespace Go.Proofs.Ytnomnhlfenhjdaa
open Go.RowKit Go.Shelf
set_option linter.unusedVariables false
attribute [local go_sem] Oper.semAt_some

theorem reads_new (w : World) (v : Value) (f : Nat × Nat) : Reads (w.alloc (.cells #[v] 5 f)) (.slice (some ⟨w.heap.size, 0, none⟩) 1 1) [v] :=
  .inr ⟨w.heap.size, 0, 1, rfl, Nat.le_refl _, by simp [maxLen], fun j hj => by
    simp at hj
    subst hj
    exact cells_cell (by rw [heap_alloc_get, if_pos rfl]) rfl⟩
theorem back_one {B : Nat} (W : World) (q : Option Addr) (n c : Nat) (x : Nat) (hx : x < 256) (h : OwnAt B W 5 (.slice q n c) [.int .u8 (x : Int)]) :
    (convert 68 9 (.slice q n c)).run Try.prog W = .ok (.string ⟨#[UInt8.ofNat x]⟩) W := by
  obtain ⟨g, off, cap, hv, _, _, hc⟩ := h.at (j := 0) (x := .int .u8 (x : Int)) rfl
  cases hv
  exact run_convert_bytes_back W 68 9 5 ⟨g, off, none⟩ c [UInt8.ofNat x] Try.underlying68 Try.underlying5 Try.underlying9 (fun j hj => by
    simp at hj
    subst hj
    rw [add_plain', hc]
    simp [Nat.mod_eq_of_lt hx])

set_option maxRecDepth 100000 in
set_option maxHeartbeats 4000000 in
theorem netWakes_any (w : World) : Calls Try.prog 31 #[] w fun e w' => e = .returned (.bool true) ∧ Step [] w w' := by
  go_enter Try.func31, Try.ntmps31
  have cv := fun (X : World) (C : Array Value) (n c : Nat) => Lib.run_convert_bytes_const (P := Try.prog) X 68 5 C n c Try.underlying68 Try.underlying5
  go_wp2_with fail
  refine (new_L w).mono ?_
  rintro e w1 ⟨bn, rfl, hN, hs⟩
  obtain ⟨l0, h0, hN⟩ : ∃ l0 : Nat → List (List Value), l0 0 = [] ∧ NetL w.heap.size w1 bn l0 := ⟨_, rfl, hN⟩
  have HN := Lib.hid hN
  have H0 := Lib.hid h0
  have HS := Lib.hid (StepB.of (B := w.heap.size) hs)
  clear hN hs h0
  go_wp2_with fail
  have hc : Calls Try.prog 29 #[.pointer (some ⟨bn, 0, none⟩), .int .i64 0, .slice (some ⟨w1.heap.size, 0, none⟩) 1 1] (w1.alloc (.cells #[.int .u8 97] 5 (1, 2))) _ := send_L w.heap.size bn 0 (by omega) l0 (.slice (some ⟨w1.heap.size, 0, none⟩) 1 1) [.int .u8 97] (by simp [Value.oneCell']) (by simp) (by rw [H0.out]; simp) _ (HN.out.same (Step.alloc _ _)) (reads_new _ _ _)
  refine hc.mono ?_
  clear hc
  rintro e w2 ⟨rfl, hN, hs, hby⟩
  obtain ⟨l1, h0, hN⟩ : ∃ l1 : Nat → List (List Value), l1 0 = [[.int .u8 97]] ∧ NetL w.heap.size w2 bn l1 := ⟨_, by rw [upd_same, H0.out]; rfl, hN⟩
  replace HN := Lib.hid hN
  have H1 := Lib.hid h0
  replace HS := Lib.hid (HS.out.trans ((StepB.of (Step.alloc _ _)).trans hs))
  clear hN hs h0
  go_wp2_with fail
  have hc : Calls Try.prog 29 #[.pointer (some ⟨bn, 0, none⟩), .int .i64 0, .slice (some ⟨w2.heap.size, 0, none⟩) 1 1] (w2.alloc (.cells #[.int .u8 98] 5 (1, 2))) _ := send_L w.heap.size bn 0 (by omega) l1 (.slice (some ⟨w2.heap.size, 0, none⟩) 1 1) [.int .u8 98] (by simp [Value.oneCell']) (by simp) (by rw [H1.out]; simp) _ (HN.out.same (Step.alloc _ _)) (reads_new _ _ _)
  refine hc.mono ?_
  clear hc
  rintro e w3 ⟨rfl, hN, hs, hby⟩
  obtain ⟨l2, h0, hN⟩ : ∃ l2 : Nat → List (List Value), l2 0 = [[.int .u8 97], [.int .u8 98]] ∧ NetL w.heap.size w3 bn l2 := ⟨_, by rw [upd_same, H1.out]; rfl, hN⟩
  replace HN := Lib.hid hN
  have H2 := Lib.hid h0
  replace HS := Lib.hid (HS.out.trans ((StepB.of (Step.alloc _ _)).trans hs))
  clear hN hs h0
  go_wp2_with fail
  have hc : Calls Try.prog 32 #[.pointer (some ⟨bn, 0, none⟩), .int .i64 0, .int .i64 0] w3 _ := double_L w.heap.size bn 0 0 (by omega) l2 [.int .u8 97] (by rw [H2.out]; rfl) (by simp [Value.oneCell']) (by simp) (by rw [H2.out]; simp) _ HN.out
  refine hc.mono ?_
  clear hc
  rintro e w4 ⟨rfl, hN, hs, hby⟩
  obtain ⟨l3, h0, hN⟩ : ∃ l3 : Nat → List (List Value), l3 0 = [[.int .u8 97], [.int .u8 98], [.int .u8 97]] ∧ NetL w.heap.size w4 bn l3 := ⟨_, by rw [upd_same, H2.out]; rfl, hN⟩
  replace HN := Lib.hid hN
  have H3 := Lib.hid h0
  replace HS := Lib.hid (HS.out.trans hs)
  clear hN hs h0
  go_wp2_with fail
  have hc : Calls Try.prog 33 #[.pointer (some ⟨bn, 0, none⟩), .int .i64 0, .int .i64 1] w4 _ := deliver_L w.heap.size bn 0 1 (by omega) l3 (by rw [H3.out]; simp) (by rw [H3.out]; simp) _ HN.out
  refine hc.mono ?_
  clear hc
  rintro e w5 ⟨qb, nb, cb, cc, hcc, rfl, ho, hN, hs, hby⟩
  rw [H3.out] at hcc
  obtain rfl : [.int .u8 98] = cc := Option.some.inj hcc
  obtain ⟨l4, h0, hN⟩ : ∃ l4 : Nat → List (List Value), l4 0 = [[.int .u8 97], [.int .u8 97]] ∧ NetL w.heap.size w5 bn l4 := ⟨_, by rw [upd_same, H3.out]; rfl, hN⟩
  replace HN := Lib.hid hN
  have H4 := Lib.hid h0
  have HOb := Lib.hid ho
  replace HS := Lib.hid (HS.out.trans hs)
  clear hN hs h0 ho hcc
  go_wp2_with fail
  have hc : Calls Try.prog 33 #[.pointer (some ⟨bn, 0, none⟩), .int .i64 0, .int .i64 1] w5 _ := deliver_L w.heap.size bn 0 1 (by omega) l4 (by rw [H4.out]; simp) (by rw [H4.out]; simp) _ HN.out
  refine hc.mono ?_
  clear hc
  rintro e w6 ⟨qa, na, ca, cc, hcc, rfl, ho, hN, hs, hby⟩
  rw [H4.out] at hcc
  obtain rfl : [.int .u8 97] = cc := Option.some.inj hcc
  obtain ⟨l5, h0, hN⟩ : ∃ l5 : Nat → List (List Value), l5 0 = [[.int .u8 97]] ∧ NetL w.heap.size w6 bn l5 := ⟨_, by rw [upd_same, H4.out]; rfl, hN⟩
  replace HN := Lib.hid hN
  have H5 := Lib.hid h0
  have HOa := Lib.hid ho
  replace HOb := Lib.hid (hby _ _ HOb.out)
  replace HS := Lib.hid (HS.out.trans hs)
  clear hN hs h0 ho hcc
  have cb : (convert 68 9 (.slice qb nb cb)).run Try.prog w6 = .ok (.string ⟨#[98]⟩) w6 := back_one _ _ _ _ 98 (by decide) HOb.out
  have ca : (convert 68 9 (.slice qa na ca)).run Try.prog w6 = .ok (.string ⟨#[97]⟩) w6 := back_one _ _ _ _ 97 (by decide) HOa.out
  have hw5 := waits_L w.heap.size bn 0 (by omega) l5 w6 HN.out
  rw [H5.out] at hw5
  have HW5 := Lib.hid hw5
  clear hw5
  go_wp2_with fail
  have hc : Calls Try.prog 34 #[.pointer (some ⟨bn, 0, none⟩), .int .i64 0] w6 _ := HW5.out
  refine hc.mono ?_
  clear hc
  rintro e w7 ⟨rfl, rfl⟩
  go_wp2_with fail
  go_ret
  exact ⟨rfl, HS.out.nil⟩
end Go.Proofs.Ytnomnhlfenhjdaa
