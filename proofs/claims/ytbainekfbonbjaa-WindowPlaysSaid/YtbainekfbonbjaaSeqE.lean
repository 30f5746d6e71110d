/- The document's masks: contracts and plain laws. -/
import Derived.Test.YtbainekfbonbjaaSeqD
import Derived.OwnWalkIn
import Derived.TacticsInMore
import Derived.LoopNIn
import Derived.LoopIn
import Derived.Deep.QuietTactic
import Derived.BigQuiet
import Derived.Maps.OwnIn
namespace Go.Proofs.Ytbainekfbonbjaa
open Go.RowKit Go.Shelf
set_option linter.unusedVariables false
attribute [local go_sem] Oper.semAt_some

def toldL (ack mask : Nat) : List Nat := (List.range' (ack + 1) (behindLen ack)).filter (tells ack mask)

/-- The numbers behind ack that are told among the first k places. -/
def toldTo (ack mask k : Nat) : List Nat := (List.range' (ack + 1) (min k (behindLen ack))).filter (tells ack mask)

theorem toldTo_zero (ack mask : Nat) : toldTo ack mask 0 = [] := by simp [toldTo]
theorem toldTo_all (ack mask : Nat) : toldTo ack mask 32 = toldL ack mask := by
  unfold toldTo toldL; rw [Nat.min_eq_right (behind_le ack)]
theorem toldTo_snoc (ack mask k : Nat) (hk : k < 32) (ha : ack < 4294967296) :
    toldTo ack mask (k + 1) = if mask / 2 ^ k % 2 = 1 ∧ ack + 1 + k < 4294967296 then toldTo ack mask k ++ [ack + 1 + k] else toldTo ack mask k := by
  have hb : behindLen ack = min 32 (4294967295 - ack) := rfl
  by_cases h : ack + 1 + k < 4294967296
  · have e1 : min (k + 1) (behindLen ack) = k + 1 := by omega
    have e2 : min k (behindLen ack) = k := by omega
    unfold toldTo
    rw [e1, e2, List.range'_concat, List.filter_append]
    have e3 : tells ack mask (ack + 1 + k) = decide (mask / 2 ^ k % 2 = 1) := by
      unfold tells
      rw [show ack + 1 + k - ack - 1 = k from by omega]
      rw [Bool.eq_iff_iff]; simp
    by_cases ht : mask / 2 ^ k % 2 = 1
    · simp [e3, ht, h]
    · simp [e3, ht, h]
  · have e1 : min (k + 1) (behindLen ack) = min k (behindLen ack) := by omega
    unfold toldTo
    rw [e1, if_neg (fun hh => h hh.2)]
theorem toldTo_len (ack mask k : Nat) : (toldTo ack mask k).length ≤ k := by
  unfold toldTo
  have := List.length_filter_le (tells ack mask) (List.range' (ack + 1) (min k (behindLen ack)))
  simp at this
  omega

theorem half_shift (mask k : Nat) : mask / 2 ^ k / 2 = mask / 2 ^ (k + 1) := by rw [Nat.div_div_eq_div_mul, Nat.pow_succ]

set_option maxRecDepth 100000 in
set_option maxHeartbeats 1000000 in
theorem refTold_any (ack mask : Nat) (w : World) (ha : ack < 4294967296) (hm : mask < 4294967296) :
    Calls Try.prog 30 #[.int .u32 (ack : Int), .int .u32 (mask : Int)] w fun e W' => ∃ v', e = .returned v' ∧ OwnU w.heap.size W' v' (toldL ack mask) ∧ Step [] w W' := by
  obtain ⟨i0, hi, hz0, hz1, hz2⟩ := info_parts info22
  go_enter Try.func30, Try.ntmps30
  go_wp2
  go_loopw [1, 5, 6, 7] (fun mv o n c wr => ∃ k M : Nat, k ≤ 32 ∧ c = .int .i64 (k : Int) ∧ n = .int .u64 ((ack : Int) + (k : Int)) ∧ mv = .int .u32 (M : Int) ∧ M ≤ mask ∧ Hid (M = mask / 2 ^ k) ∧ Hid (OwnU w.heap.size wr o (toldTo ack mask k)) ∧ Hid (Step [] w wr)) (fun mv o n c wr => 32 - (intOf c).toNat)
  case atStart => exact ⟨0, mask, by omega, by simp, by simp, rfl, by omega, by simp [Hid], by simpa [Hid, toldTo_zero] using ownU_nil _ _, Step.refl _ _⟩
  case round =>
    obtain ⟨k, M, hk, rfl, rfl, rfl, hMm, hM, ho, hst⟩ := hrel
    obtain ⟨ao, cap, rfl⟩ := ownU_slice ho.out
    by_cases hlt : k < 32
    · have hsn := toldTo_snoc ack mask k hlt ha
      have hln := toldTo_len ack mask k
      have hhalf := half_shift mask k
      rw [← hM.out] at hsn hhalf
      generalize hL : toldTo ack mask k = L at *
      have HSN := Lib.hid hsn
      have HH := Lib.hid hhalf
      clear hL hsn hhalf
      by_cases hodd : M % 2 = 1
      · by_cases hov : ack + 1 + k < 4294967296
        · have hov1 : ((ack : Int) + (k : Int) + 1 ≤ 4294967295) = True := by simp; omega
          go_wp2_with (at_builtin; refine wpList_append_own_at _ rfl _ _ 26 rfl w.heap.size 22 i0 (.int .u32 0) 1 4 Try.underlying26 hi hz0 hz1 hz2 rfl (by decide) _ _ _ rfl (ho.out.alloc _) ⟨wr.heap.size, 0, none⟩ 1 1 [.int .u32 ((ack : Int) + (k : Int) + 1)] rfl rfl (cell_one_new _ _ _) (by simp [Value.oneCell']) (by unfold maxLen; omega) (by omega) (by have := hst.out.size; simp; omega) ?_; intro v' w2 hown' hgrow _ hat; obtain ⟨g', cap', rfl⟩ := ownsRow_succ hown')
          have hst2 := appended_local hst.out (Nat.le_refl _) rfl ho.out hgrow
          rw [if_pos ⟨hodd, hov⟩] at HSN
          have hown2 : OwnU w.heap.size w2 (.slice (some ⟨g', 0, none⟩) (L.length + 1) cap') (L ++ [ack + 1 + k]) := ownU_snoc (by
            have e : (((ack + 1 + k : Nat) : Nat) : Int) = (ack : Int) + (k : Int) + 1 := by omega
            rw [e]; exact hown')
          refine ⟨⟨k + 1, M / 2, by omega, by go_num, by go_num, by go_num, by omega, HH.out, ?_, hst2⟩, by simp [intOf]; omega⟩
          rw [HSN.out]; exact hown2
        · have hov1 : ((ack : Int) + (k : Int) + 1 ≤ 4294967295) = False := by simp; omega
          rw [if_neg (fun h => hov h.2)] at HSN
          go_wp2
          refine ⟨⟨k + 1, M / 2, by omega, by go_num, by go_num, by go_num, by omega, HH.out, ?_, hst⟩, by simp [intOf]; omega⟩
          rw [HSN.out]; exact ho
      · rw [if_neg (fun h => hodd h.1)] at HSN
        go_wp2
        refine ⟨⟨k + 1, M / 2, by omega, by go_num, by go_num, by go_num, by omega, HH.out, ?_, hst⟩, by simp [intOf]; omega⟩
        rw [HSN.out]; exact ho
    · have hk32 : k = 32 := by omega
      have hfin : toldTo ack mask k = toldL ack mask := by rw [hk32]; exact toldTo_all _ _
      have HF := Lib.hid hfin
      clear hfin hk32
      go_wp2
      go_ret
      exact ⟨_, rfl, by rw [← HF.out]; exact ho.out, hst.out⟩

theorem maskTo_snoc (ack k : Nat) (q : Nat → Bool) (hk : k < 32) :
    bitsSum ack ((List.range' (ack + 1) (min (k + 1) (behindLen ack))).filter q) = if ack + 1 + k < 4294967296 ∧ q (ack + 1 + k) = true then bitsSum ack ((List.range' (ack + 1) (min k (behindLen ack))).filter q) + 2 ^ k else bitsSum ack ((List.range' (ack + 1) (min k (behindLen ack))).filter q) := by
  have hb : behindLen ack = min 32 (4294967295 - ack) := rfl
  by_cases h : ack + 1 + k < 4294967296
  · have e1 : min (k + 1) (behindLen ack) = k + 1 := by omega
    have e2 : min k (behindLen ack) = k := by omega
    rw [e1, e2, List.range'_concat, List.filter_append]
    by_cases ht : q (ack + 1 + k) = true
    · rw [if_pos ⟨h, ht⟩]
      simp only [Nat.one_mul, List.filter_cons, ht, if_true, List.filter_nil, bitsSum_snoc]
      rw [show ack + 1 + k - ack - 1 = k from by omega]
    · rw [if_neg (fun hh => ht hh.2)]
      simp [ht]
  · have e1 : min (k + 1) (behindLen ack) = min k (behindLen ack) := by omega
    rw [e1, if_neg (fun hh => h hh.1)]
theorem maskTo_lt (ack k : Nat) (q : Nat → Bool) : bitsSum ack ((List.range' (ack + 1) (min k (behindLen ack))).filter q) < 2 ^ k := by
  have h := bitsSum_lt ack ((List.range' (ack + 1) (min k (behindLen ack))).filter q) (ack + k + 1) ((range'_lt _ _).filter _) (fun y hy => by
    have := range'_mem (List.mem_filter.1 hy).1
    omega)
  rwa [show ack + k + 1 - ack - 1 = k from by omega] at h

set_option maxRecDepth 100000 in
set_option maxHeartbeats 1000000 in
theorem refMask_any (ack : Nat) (v : Value) (hs : List Nat) (w : World) (ha : ack < 4294967296) (h1 : IsN .u32 w v hs) :
    Calls Try.prog 32 #[.int .u32 (ack : Int), v] w fun e w' => e = .returned (.int .u32 (maskOf ack (fun n => decide (n ∈ hs)) : Int)) ∧ w = w' := by
  have H1 := Lib.hid h1
  clear h1
  go_enter Try.func32, Try.ntmps32
  go_wp2
  go_loop [5, 6, 7] (fun mv b c => ∃ k m p : Nat, k ≤ 32 ∧ c = .int .u64 ((k : Int) + 1) ∧ mv = .int .u32 (m : Int) ∧ b = .int .u32 (p : Int) ∧ m < 4294967296 ∧ p < 4294967296 ∧ Hid (p = 2 ^ k % 4294967296) ∧ Hid (m = bitsSum ack ((List.range' (ack + 1) (min k (behindLen ack))).filter (fun n => decide (n ∈ hs))))) (fun mv b c => 33 - (intOf c).toNat)
  case atStart => exact ⟨0, 0, 1, by omega, by simp, by simp, by simp, by omega, by omega, by simp [Hid], by simp [Hid, bitsSum]⟩
  case round =>
    obtain ⟨k, m, p, hk, rfl, rfl, rfl, hm, hp, hpk, hmk⟩ := hrel
    by_cases hlt : k < 32
    · have hsn := maskTo_snoc ack k (fun n => decide (n ∈ hs)) hlt
      have hml := maskTo_lt ack k (fun n => decide (n ∈ hs))
      rw [← hmk.out] at hsn hml
      have hp2 : p = 2 ^ k := by rw [hpk.out]; exact Nat.mod_eq_of_lt (Nat.lt_of_lt_of_le (Nat.pow_lt_pow_right (by omega) hlt) (by omega))
      have hpl : p ≤ 2147483648 := by rw [hp2]; exact Nat.le_trans (Nat.pow_le_pow_right (by omega) (show k ≤ 31 by omega)) (by omega)
      have hpp : p * 2 % 4294967296 = 2 ^ (k + 1) % 4294967296 := by rw [hp2, Nat.pow_succ]
      rw [← hp2] at hml hsn
      have HSN := Lib.hid hsn
      have HPP := Lib.hid hpp
      clear hsn hp2 hpp
      by_cases hov : ack + 1 + k < 4294967296
      · have hov1 : ((ack : Int) + ((k : Int) + 1) ≤ 4294967295) = True := by simp; omega
        by_cases hin : ack + 1 + k ∈ hs
        · have hd : decide (ack + 1 + k ∈ hs) = true := by simpa using hin
          have HIN := Lib.hid hin
          have HD := Lib.hid hd
          clear hin hd
          rw [if_pos ⟨hov, HD.out⟩] at HSN
          go_wp2_with (go_at_call 86; refine (has_at _ hs (ack + 1 + k) _ _ (by omega) H1.out).mono ?_; rintro e w' ⟨rfl, rfl⟩; rw [HD.out])
          exact ⟨⟨k + 1, m + p, p * 2 % 4294967296, by omega, by go_num, by go_num, by go_num, by omega, by omega, HPP.out, HSN.out.symm⟩, by simp [intOf]; omega⟩
        · have hd : decide (ack + 1 + k ∈ hs) = false := by simpa using hin
          have HD := Lib.hid hd
          clear hin hd
          rw [if_neg (fun h => by rw [HD.out] at h; exact absurd h.2 (by simp))] at HSN
          go_wp2_with (go_at_call 86; refine (has_at _ hs (ack + 1 + k) _ _ (by omega) H1.out).mono ?_; rintro e w' ⟨rfl, rfl⟩; rw [HD.out])
          exact ⟨⟨k + 1, m, p * 2 % 4294967296, by omega, by go_num, by go_num, by go_num, by omega, by omega, HPP.out, HSN.out.symm⟩, by simp [intOf]; omega⟩
      · have hov1 : ((ack : Int) + ((k : Int) + 1) ≤ 4294967295) = False := by simp; omega
        rw [if_neg (fun h => hov h.1)] at HSN
        go_wp2
        exact ⟨⟨k + 1, m, p * 2 % 4294967296, by omega, by go_num, by go_num, by go_num, by omega, by omega, HPP.out, HSN.out.symm⟩, by simp [intOf]; omega⟩
    · have hk32 : k = 32 := by omega
      have hfin : m = maskOf ack (fun n => decide (n ∈ hs)) := by
        rw [hmk.out, hk32]; unfold maskOf; rw [Nat.min_eq_right (behind_le ack)]
      have HF := Lib.hid hfin
      clear hfin hk32
      go_wp2
      go_ret
      exact ⟨by rw [← HF.out]; rfl, rfl⟩
end Go.Proofs.Ytbainekfbonbjaa
