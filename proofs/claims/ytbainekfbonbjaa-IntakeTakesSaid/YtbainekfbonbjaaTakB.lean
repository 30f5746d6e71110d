/- IntakeTakes: the reference's Bytes and Told. No statement is proved here; nothing is assumed. -/
import Derived.Test.YtbainekfbonbjaaTakA
namespace Go.Proofs.Ytbainekfbonbjaa
open Go.RowKit Go.Shelf Go.Maps
set_option linter.unusedVariables false
set_option linter.unusedSimpArgs false
attribute [local go_sem] Oper.semAt_some

theorem sumK_take {f : Kept7} {K : Ents} {j k : Nat} {v : Value} (h : K[j]? = some (k, v)) : sumK f ((K.take (j + 1)).map Prod.fst) = sumK f ((K.take j).map Prod.fst) + ((f k).getD []).length := by
  have e : K.take (j + 1) = K.take j ++ [(k, v)] := by
    rw [List.take_add_one, h]; rfl
  rw [e]
  simp [sumK]
theorem sumK_take_le (f : Kept7) (K : Ents) (j : Nat) : sumK f ((K.take j).map Prod.fst) ≤ sumK f (K.map Prod.fst) := by
  have e : K.map Prod.fst = (K.take j).map Prod.fst ++ (K.drop j).map Prod.fst := by rw [← List.map_append, List.take_append_drop]
  have h2 : sumK f (K.map Prod.fst) = sumK f ((K.take j).map Prod.fst) + sumK f ((K.drop j).map Prod.fst) := by
    rw [e]
    unfold sumK
    rw [List.map_append, List.sum_append]
  omega
set_option maxRecDepth 100000 in
set_option maxHeartbeats 2000000 in
theorem refBytes_any (B br F : Nat) (sv : Value) (K : Ents) (f : Kept7) (hK : K.length ≤ 1000) (w : World) (h : RefM B w br F sv K f) (hS : sumK f (K.map Prod.fst) < 1000000000) :
    Calls Try.prog 75 #[.pointer (some ⟨br, 0, none⟩)] w fun e w' => e = .returned (.int .i64 (sumK f (K.map Prod.fst) : Int)) ∧ w = w' := by
  obtain ⟨ao, cap, hsv, hcap, hcm⟩ := h.form
  subst hsv
  obtain ⟨c0, c1, _⟩ := h.cells
  obtain ⟨L, hL⟩ : ∃ L, L = K.length := ⟨_, rfl⟩
  rw [← hL] at c1 hcap hK
  have H := Lib.hid (And.intro h (And.intro hL hS))
  have hcm2 : cap ≤ 9223372036854775807 := by unfold maxLen at hcm; omega
  clear hL hcm hS h
  go_enter Try.func75, Try.ntmps75
  go_wp2_with fail
  go_loopw [3, 4] (fun s i wr => ∃ j a : Nat, j ≤ L ∧ i = .int .i64 (j : Int) ∧ s = .int .i64 (a : Int) ∧ w = wr ∧ Hid (a = sumK f ((K.take j).map Prod.fst))) (fun s i wr => L - (intOf i).toNat)
  case atStart => exact ⟨0, 0, by omega, rfl, rfl, rfl, rfl⟩
  case round =>
    obtain ⟨j, a, hj, rfl, rfl, rfl, hI⟩ := hrel
    have hle := sumK_take_le f K j
    by_cases hlt : j < L
    · have s1 : ((j : Int) < (L : Int)) = True := by simp; omega
      obtain ⟨⟨k, v⟩, hkv⟩ : ∃ p, K[j]? = some p := ⟨_, List.getElem?_eq_getElem (by rw [← H.out.2.1]; exact hlt)⟩
      obtain ⟨g, cap', e1, e2, e3, e4, e5⟩ := H.out.1.at hkv
      rw [← H.out.2.1] at e1
      injection e1 with e1 e6 e7
      subst e1
      subst e7
      obtain ⟨p, hp, hpay⟩ := H.out.1.r.to k v (List.mem_of_getElem? hkv)
      obtain ⟨uq, uc, hu, _⟩ := hpay.1.form
      rw [u8s_length] at hu
      subst hu
      have hst := sumK_take (f := f) hkv
      rw [hp] at hst
      simp only [Option.getD_some] at hst
      have hle2 := sumK_take_le f K (j + 1)
      have hjc : (j : Int) < (L : Int) := by omega
      have hw2 : IntKind.i64.wrap ((j : Int) + 1) = ((j : Int) + 1) := by rw [IntKind.wrap_i64]; omega
      obtain ⟨pl, hpl⟩ : ∃ pl, pl = p.length := ⟨_, rfl⟩
      rw [← hpl] at hst e5
      have hS := H.out.2.2
      have ha := hI.out
      have hw3 : IntKind.i64.wrap ((a : Int) + (pl : Int)) = ((a : Int) + (pl : Int)) := by rw [IntKind.wrap_i64]; omega
      have HS := Lib.hid (show a + pl = sumK f ((K.take (j + 1)).map Prod.fst) by omega)
      clear hkv e2 e3 e6 hp hpay hst hle2 hle hS ha hpl
      go_wp2_with fail
      go_roundw
      case rel => exact ⟨j + 1, a + pl, by omega, by go_num, by go_num, trivial, HS.out⟩
      case measure => simp [intOf]; omega
    · have hjL : j = L := by omega
      have s1 : ((j : Int) < (L : Int)) = False := by simp; omega
      have HF := Lib.hid (show a = sumK f (K.map Prod.fst) by
        have := hI.out
        rwa [List.take_of_length_le (by have := H.out.2.1; omega)] at this)
      clear hjL hle
      go_wp2_with fail
      go_ret
      exact ⟨by rw [← HF.out]; rfl, rfl⟩
theorem info22' : (Try.prog.info? 22).map (fun i => (i.zero, i.size, i.bytes)) = some (some (.int .u32 0), 1, 4) := info22
set_option maxRecDepth 100000 in
set_option maxHeartbeats 2000000 in
theorem refTold_M (B br F : Nat) (hF : F < 4294967296) (sv : Value) (K : Ents) (f : Kept7) (hK : K.length ≤ 1000) (w : World) (h : RefM B w br F sv K f) (mk : Nat) (hm : toldM F f = mk) :
    Calls Try.prog 73 #[.pointer (some ⟨br, 0, none⟩)] w fun e w' => e = .returned (.tuple #[.int .u32 (F : Int), .int .u32 (mk : Int)]) ∧ Step [] w w' := by
  have HM := Lib.hid hm
  clear hm
  obtain ⟨i0, hi, hz0, hz1, hz2⟩ := info_parts info22
  obtain ⟨ao, cap, hsv, hcap, hcm⟩ := h.form
  subst hsv
  obtain ⟨L, hL⟩ : ∃ L, L = K.length := ⟨_, rfl⟩
  rw [← hL] at hcap hK
  have H := Lib.hid (And.intro h (And.intro hL hF))
  have hcm2 : cap ≤ 9223372036854775807 := by unfold maxLen at hcm; omega
  clear hL hcm hF h
  go_enter Try.func73, Try.ntmps73
  go_wp2_with fail
  go_loopw [4, 5] (fun v i wr => ∃ j : Nat, j ≤ L ∧ i = .int .i64 (j : Int) ∧ Hid (OwnU w.heap.size wr v ((K.take j).map Prod.fst) ∧ Step [] w wr)) (fun v i wr => L - (intOf i).toNat)
  case atStart => exact ⟨0, by omega, rfl, ownU_nil _ _, Step.refl _ _⟩
  case round =>
    obtain ⟨j, hj, rfl, hI⟩ := hrel
    obtain ⟨ao1, cap1, rfl⟩ := ownU_slice hI.out.1
    have h1 := H.out.1.same hI.out.2
    obtain ⟨c0, c1, _⟩ := h1.cells
    rw [← H.out.2.1] at c1
    have hlen : ((K.take j).map Prod.fst).length = j := by rw [List.length_map, List.length_take]; have := H.out.2.1; omega
    by_cases hlt : j < L
    · have s1 : ((j : Int) < (L : Int)) = True := by simp; omega
      obtain ⟨⟨k, v⟩, hkv⟩ : ∃ p, K[j]? = some p := ⟨_, List.getElem?_eq_getElem (by rw [← H.out.2.1]; exact hlt)⟩
      obtain ⟨g, cap', e1, e2, e3, e4, e5⟩ := h1.at hkv
      rw [← H.out.2.1] at e1
      injection e1 with e1 e6 e7
      subst e1
      subst e7
      have hsn : (K.take (j + 1)).map Prod.fst = (K.take j).map Prod.fst ++ [k] := by rw [List.take_add_one, hkv]; simp
      have hjc : (j : Int) < (L : Int) := by omega
      have hw2 : IntKind.i64.wrap ((j : Int) + 1) = ((j : Int) + 1) := by rw [IntKind.wrap_i64]; omega
      obtain ⟨zs, hzs⟩ : ∃ zs, zs = (K.take j).map Prod.fst := ⟨_, rfl⟩
      rw [← hzs] at hI hlen hsn ⊢
      have HV := Lib.hid (show w.heap.size ≤ w.heap.size ∧ wr.ownsRow w.heap.size 22 1 (.slice ao1 j cap1) j (numRow .u32 zs) from ⟨Nat.le_refl _, by have := hI.out.1; rw [hlen] at this; unfold OwnU at this; rwa [hlen] at this⟩)
      rw [hlen]
      have HZ := Lib.hid (And.intro hI.out.2 (And.intro hlen hsn))
      clear hkv e2 e3 e5 e6 hI hlen hsn hzs h1
      go_wp2_with (at_builtin; refine wpList_append_own_at _ rfl _ _ 26 rfl w.heap.size 22 i0 (.int .u32 0) 1 4 Try.underlying26 hi hz0 hz1 hz2 rfl (by decide) _ _ _ rfl (HV.out.2.alloc _) ⟨wr.heap.size, 0, none⟩ 1 1 [.int .u32 (k : Int)] rfl rfl (cell_one_new _ _ _) (by simp [Value.oneCell']) (by unfold maxLen; omega) (by omega) (by have := HZ.out.1.size; simp; omega) ?_; intro v' w2 hown' hgrow _ hat; obtain ⟨g', cap', rfl⟩ := ownsRow_succ hown'; have hs2 := appended_local HZ.out.1 (Nat.le_refl _) rfl HV.out.2 hgrow; have HN := Lib.hid (And.intro hown' hs2); clear hown' hs2 hgrow hat)
      go_roundw
      case rel =>
        refine ⟨j + 1, by omega, by go_num, ?_, HN.out.2⟩
        have h2 := HN.out.1
        rw [HZ.out.2.2]
        unfold OwnU
        rw [List.length_append, HZ.out.2.1]
        rw [numRow_snoc] at h2
        exact h2
      case measure => simp [intOf]; omega
    · have hjL : j = L := by omega
      have s1 : ((j : Int) < (L : Int)) = False := by simp; omega
      have hall : (K.take j).map Prod.fst = K.map Prod.fst := by rw [List.take_of_length_le (by have := H.out.2.1; omega)]
      rw [hall] at hI
      rw [hall]
      obtain ⟨len, hlen2⟩ : ∃ len, len = (K.map Prod.fst).length := ⟨_, rfl⟩
      have HN := Lib.hid hI.out.1.isN
      rw [← hlen2] at HN ⊢
      have hmk : maskOf F (fun n => decide (n ∈ K.map Prod.fst)) = mk := by
        rw [← HM.out]
        unfold toldM
        refine maskOf_congr fun x _ => ?_
        rw [Bool.eq_iff_iff]
        simp only [decide_eq_true_eq]
        rw [H.out.1.r.mem x, Option.isSome_iff_exists]
      have HMK := Lib.hid hmk
      have HS := Lib.hid hI.out.2
      clear hall hI hlen2 hmk h1 hlen hjL
      go_wp2_with fail
      go_region_held3 (fun X => X.cell? ⟨br, 0, none⟩ = some (.int .u32 (F : Int)) ∧ Step [] wr X)
        (first | exact keep1z c0 | assumption | exact keep1s ‹_› ‹_›)
        (first | (go_at_call 32; refine (refMask_any F _ (K.map Prod.fst) _ H.out.2.2 (isN_step (S := []) HN.out (And.right ‹_›))).mono ?_; rintro e w' ⟨rfl, rfl⟩; rw [HMK.out]))
      rename_i hHeld
      go_wp2
      go_ret2
      exact ⟨rfl, HS.out.trans hHeld.2⟩
end Go.Proofs.Ytbainekfbonbjaa
