/- NetBits: its walk. No statement is proved here; nothing is assumed. -/
import Derived.Test.YtnomnhlfenhjdaaNetM
import Derived.OwnWalkIn
import Derived.TacticsInMore
import Derived.LoopNIn
import Derived.LoopIn
import Derived.Deep.QuietTactic
import Derived.BigQuiet
import Derived.Maps.OwnIn
import Derived.Laws.IdiomStrings
import Derived.Laws.BytesArg
namespace Go.Proofs.Ytnomnhlfenhjdaa
open Go.RowKit Go.Shelf
set_option linter.unusedVariables false
set_option linter.unusedSimpArgs false
attribute [local go_sem] Oper.semAt_some

theorem reads_nil (w : World) : Reads w (.slice none 0 0) [] := .inl ⟨none, 0, rfl, rfl, fun _ => rfl, by simp [maxLen]⟩

theorem wrap_u8m (a : Int) : IntKind.u8.wrap a = a % 256 := by simp [IntKind.wrap, IntKind.bits, IntKind.signed]
/-- What waits on the way down, while the datagrams ahead are sent. -/
def Ahead (B bn k : Nat) (W w : World) : Prop := (∃ l, l 1 = List.replicate k [] ∧ NetL B W bn l) ∧ StepB B w W

set_option maxRecDepth 100000 in
set_option maxHeartbeats 4000000 in
theorem bits_walk (q : Option Addr) (n m cap bit ah : Nat) (xs : List Nat) (w : World) (hm : m ≤ 600) (hnm : (n ≤ 600 ∧ n = m) ∨ (600 < n ∧ 600 = m)) (hnc : n ≤ cap) (hcm : cap ≤ maxLen) (hxl : xs.length = m) (hxb : ∀ x ∈ xs, x < 256) (hr : Reads w (.slice q m cap) (u8s xs)) (hb : bit < 65536) (ha : ah < 256) :
    Calls Try.prog 7 #[.slice q n cap, .int .u16 (bit : Int), .int .u8 (ah : Int)] w fun e w' => e = .returned (.bool true) ∧ Step [] w w' := by
  unfold maxLen at hcm
  obtain ⟨A, hA⟩ : ∃ A, A = ah % 60 := ⟨_, rfl⟩
  have hA1 : (ah : Int) % 60 = (A : Int) := by omega
  have hA2 : (A : Int) < 60 := by omega
  have hmin : min (n : Int) 600 = (m : Int) := by omega
  have hmc : m ≤ cap := by omega
  have HXB := Lib.hid hxb
  have HXL := Lib.hid hxl
  have HR := Lib.hid hr
  have HM := Lib.hid hm
  clear hxb hxl hr hA hnm
  go_enter Try.func7, Try.ntmps7
  go_wp2_with fail
  refine (new_L w).mono ?_
  rintro e w1 ⟨bn, rfl, hN, hs⟩
  have HN0 := Lib.hid (show Ahead w.heap.size bn 0 w1 w from ⟨⟨_, rfl, hN⟩, StepB.of hs⟩)
  clear hN hs hmin
  go_wp2_with fail
  clear hA1
  go_loopw [30] (fun i wr => ∃ k : Nat, k ≤ A ∧ i = .int .i64 (k : Int) ∧ Hid (Ahead w.heap.size bn k wr w)) (fun i wr => A - (intOf i).toNat)
  case atStart => exact ⟨0, by omega, rfl, HN0⟩
  case round =>
    obtain ⟨k, hk, rfl, hI⟩ := hrel
    clear HN0
    by_cases hlt : k < A
    · obtain ⟨⟨l, hl, hN⟩, hS⟩ := hI.out
      have HL := Lib.hid hl
      have HN := Lib.hid hN
      have HS := Lib.hid hS
      have HLT := Lib.hid (show k < 60 by omega)
      have t1 : (k : Int) < (A : Int) := by omega
      clear hl hN hS hI
      go_wp2_with fail
      have hc := send_L w.heap.size bn 1 (by omega) l (.slice none 0 0) [] (by simp) (by simp) (by rw [HL.out]; have := HLT.out; simp; omega) _ HN.out (reads_nil _)
      refine hc.mono ?_
      clear hc
      rintro e w2 ⟨rfl, hN, hs, hby⟩
      have HI := Lib.hid (show Ahead w.heap.size bn (k + 1) w2 w from ⟨⟨_, by rw [upd_same, HL.out, List.replicate_succ'], hN⟩, HS.out.trans hs⟩)
      clear hN hs hby HN HS HL HLT
      go_wp2
      go_roundw
      case rel => exact ⟨k + 1, by omega, by go_num, HI⟩
      case measure => simp [intOf]; omega
    · obtain rfl : k = A := by omega
      obtain ⟨⟨l, hl, hN⟩, hS⟩ := hI.out
      obtain ⟨w2, hw2⟩ : ∃ w2, w2 = wr := ⟨_, rfl⟩
      rw [← hw2] at hN hS ⊢
      clear hw2 hI hlt
      have HL := Lib.hid hl
      have HN := Lib.hid hN
      have HS := Lib.hid hS
      clear hl hN hS
      have hrd : Reads w2 (.slice q m cap) (u8s xs) := HR.out.same HS.out.nil
      have HR2 := Lib.hid hrd
      have HA := Lib.hid (show k < 60 by omega)
      clear hrd hA2
      go_wp2_with fail
      refine (send_L w.heap.size bn 1 (by omega) l (.slice q m cap) (u8s xs) (u8s_one xs) (by rw [u8s_length, HXL.out]; exact HM.out) (by rw [HL.out]; have := HA.out; simp; omega) _ HN.out HR2.out).mono ?_
      rintro e w3 ⟨rfl, hN, hs, hby⟩
      obtain ⟨l1, h1, hN2⟩ : ∃ l1 : Nat → List (List Value), l1 1 = List.replicate k [] ++ [u8s xs] ∧ NetL w.heap.size w3 bn l1 := ⟨_, by rw [upd_same, HL.out], hN⟩
      replace HN := Lib.hid hN2
      have HL1 := Lib.hid h1
      replace HS := Lib.hid (HS.out.trans hs)
      clear hN hN2 hs hby h1 HL HR2
      obtain ⟨kd, hkd⟩ : ∃ kd, kd = bit / 8 := ⟨_, rfl⟩
      obtain ⟨km, hkm⟩ : ∃ km, km = bit % 8 := ⟨_, rfl⟩
      have hq1 : (bit : Int) / 8 = (kd : Int) := by omega
      have hr1 : (bit : Int) % 8 = (km : Int) := by omega
      have hkm8 : (km : Int) < 8 := by omega
      by_cases hout : 8 * m ≤ bit
      · have t2 : (8 * (m : Int) ≤ (bit : Int)) = True := by simp; omega
        clear hq1 hr1 hkm8 hkd hkm
        have HO := Lib.hid hout
        clear hout
        go_wp2_with fail
        refine (flip_out w.heap.size bn 1 k (bit : Int) (by omega) l1 (u8s xs) (by rw [HL1.out]; simp) (.inr (by rw [u8s_length, HXL.out]; have := HO.out; omega)) (by omega) (by rw [u8s_length, HXL.out]; exact HM.out) (by rw [HL1.out]; have := HA.out; simp; omega) _ HN.out).mono ?_
        rintro e w4 ⟨rfl, rfl⟩
        go_wp2_with (go_at_call 31; refine (netWakes_any _).mono ?_; rintro e w4 ⟨rfl, hs4⟩; replace HS := Lib.hid (HS.out.trans (StepB.of hs4)); clear hs4)
        go_ret
        exact ⟨rfl, HS.out.nil⟩
      · have t2 : (8 * (m : Int) ≤ (bit : Int)) = False := by simp; omega
        have hkdm : kd < m := by omega
        obtain ⟨x, hx⟩ : ∃ x, xs[kd]? = some x := ⟨_, List.getElem?_eq_getElem (by rw [HXL.out]; exact hkdm)⟩
        have hxb : x < 256 := HXB.out x (List.mem_of_getElem? hx)
        obtain ⟨ys, hys⟩ : ∃ ys, ys = xs.set kd (flipN x km) := ⟨_, rfl⟩
        have hf := flipV_eq hxb (show km < 8 by omega)
        have hset : (u8s xs).set kd (flipV x km) = u8s ys := by rw [hys, hf.1]; simp [u8s, List.map_set]
        have hyl : ys.length = m := by rw [hys, List.length_set]; exact HXL.out
        have hyx : ys[kd]? = some (flipN x km) := by rw [hys, List.getElem?_set_self (by rw [HXL.out]; exact hkdm)]
        have hback : (u8s ys).set kd (flipV (flipN x km) km) = u8s xs := by
          rw [(flipV_eq hf.2.1 (show km < 8 by omega)).1, hf.2.2, hys]
          have : x = xs[kd]'(by rw [HXL.out]; exact hkdm) := by
            rw [List.getElem?_eq_getElem (by rw [HXL.out]; exact hkdm)] at hx
            exact (Option.some.inj hx).symm
          simp only [u8s, List.map_set, List.set_set]
          refine List.ext_getElem? fun j => ?_
          rw [List.getElem?_set]
          split
          · rename_i hj
            subst hj
            rw [List.length_map, if_pos (by rw [HXL.out]; exact hkdm), List.getElem?_map, hx]
            rfl
          · rfl
        have HF := Lib.hid hf
        have HSET := Lib.hid hset
        have HBACK := Lib.hid hback
        have HYL := Lib.hid hyl
        have HYX := Lib.hid hyx
        have HX := Lib.hid hx
        have HXB1 := Lib.hid hxb
        have HYS := Lib.hid hys
        have HKD := Lib.hid hkd
        have HKM := Lib.hid hkm
        have HKDM := Lib.hid hkdm
        have HOUT := Lib.hid hout
        clear hf hset hback hyl hyx hx hxb hys hkd hkm hkdm hout
        go_wp2_with fail
        refine (flip_L w.heap.size bn 1 k bit (by omega) l1 (u8s xs) x (by rw [HL1.out]; simp) (by rw [← HKD.out, u8s_get, HX.out]; rfl) HXB1.out (by rw [u8s_length, HXL.out]; exact HM.out) (by rw [HL1.out]; have := HA.out; simp; omega) _ HN.out).mono ?_
        rintro e w4 ⟨rfl, hN, hs⟩
        obtain ⟨l2, h1, hN2⟩ : ∃ l2 : Nat → List (List Value), l2 1 = List.replicate k [] ++ [u8s ys] ∧ NetL w.heap.size w4 bn l2 := ⟨_, by rw [upd_same, HL1.out, ← HKD.out, ← HKM.out, HSET.out]; simp, hN⟩
        replace HN := Lib.hid hN2
        have HL2 := Lib.hid h1
        replace HS := Lib.hid (HS.out.trans hs)
        clear hN hN2 hs h1 HL1
        go_wp2_with fail
        refine (double_L w.heap.size bn 1 k (by omega) l2 (u8s ys) (by rw [HL2.out]; simp) (u8s_one ys) (by rw [u8s_length, HYL.out]; have := HM.out; omega) (by rw [HL2.out]; have := HA.out; simp; omega) _ HN.out).mono ?_
        rintro e w5 ⟨rfl, hN, hs, hby⟩
        obtain ⟨l3, h1, hN2⟩ : ∃ l3 : Nat → List (List Value), l3 1 = List.replicate k [] ++ [u8s ys, u8s ys] ∧ NetL w.heap.size w5 bn l3 := ⟨_, by rw [upd_same, HL2.out]; simp, hN⟩
        replace HN := Lib.hid hN2
        have HL3 := Lib.hid h1
        replace HS := Lib.hid (HS.out.trans hs)
        clear hN hN2 hs h1 HL2 hby
        go_wp2_with fail
        refine (flip_L w.heap.size bn 1 k bit (by omega) l3 (u8s ys) (flipN x km) (by rw [HL3.out]; simp) (by rw [← HKD.out, u8s_get, HYX.out]; rfl) HF.out.2.1 (by rw [u8s_length, HYL.out]; exact HM.out) (by rw [HL3.out]; have := HA.out; simp; omega) _ HN.out).mono ?_
        rintro e w6 ⟨rfl, hN, hs⟩
        obtain ⟨l4, h1, hN2⟩ : ∃ l4 : Nat → List (List Value), l4 1 = List.replicate k [] ++ [u8s xs, u8s ys] ∧ NetL w.heap.size w6 bn l4 := ⟨_, by rw [upd_same, HL3.out, ← HKD.out, ← HKM.out, HBACK.out]; simp, hN⟩
        replace HN := Lib.hid hN2
        have HL4 := Lib.hid h1
        replace HS := Lib.hid (HS.out.trans hs)
        clear hN hN2 hs h1 HL3
        have hk1 : (k : Int) < 60 := by have := HA.out; omega
        go_wp2_with fail
        refine (show Calls Try.prog 33 #[.pointer (some ⟨bn, 0, none⟩), .int .i64 1, .int .i64 ((k : Int) + 1)] w6 _ from deliver_L w.heap.size bn 1 (k + 1) (by omega) l4 (by rw [HL4.out]; simp) (by rw [HL4.out]; have := HA.out; simp; omega) _ HN.out).mono ?_
        rintro e w7 ⟨qb, nb, cb, cc, hcc, rfl, ho, hN, hs, hby⟩
        rw [HL4.out] at hcc
        obtain rfl : u8s ys = cc := by simpa using hcc
        obtain ⟨l5, h1, hN2⟩ : ∃ l5 : Nat → List (List Value), l5 1 = List.replicate k [] ++ [u8s xs] ∧ NetL w.heap.size w7 bn l5 := ⟨_, by rw [upd_same, HL4.out, List.eraseIdx_append_of_length_le (by simp)]; simp, hN⟩
        replace HN := Lib.hid hN2
        have HL5 := Lib.hid h1
        have HOb := Lib.hid ho
        replace HS := Lib.hid (HS.out.trans hs)
        clear hN hN2 hs h1 ho hcc HL4 hby
        go_wp2_with fail
        refine (deliver_L w.heap.size bn 1 k (by omega) l5 (by rw [HL5.out]; simp) (by rw [HL5.out]; have := HA.out; simp; omega) _ HN.out).mono ?_
        rintro e w8 ⟨qa, na, ca, cc, hcc, rfl, ho, hN, hs, hby⟩
        rw [HL5.out] at hcc
        obtain rfl : u8s xs = cc := by simpa using hcc
        obtain ⟨l6, h1, hN2⟩ : ∃ l6 : Nat → List (List Value), l6 1 = List.replicate k [] ∧ NetL w.heap.size w8 bn l6 := ⟨_, by rw [upd_same, HL5.out]; simp [List.eraseIdx_append], hN⟩
        replace HN := Lib.hid hN2
        have HL6 := Lib.hid h1
        have HOa := Lib.hid ho
        replace HOb := Lib.hid (hby _ _ HOb.out)
        replace HS := Lib.hid (HS.out.trans hs)
        clear hN hN2 hs h1 ho hcc HL5 hby
        obtain rfl : nb = m := by obtain ⟨_, _, h, _⟩ := HOb.out.form; cases h; rw [u8s_length]; exact HYL.out
        have cb1 : (convert 68 9 (.slice qa na ca)).run Try.prog w8 = .ok (.string (strN xs)) w8 := back_all _ _ _ HXB.out HOa.out.reads
        have cb2 : (convert 68 9 (.slice q nb cap)).run Try.prog w8 = .ok (.string (strN xs)) w8 := back_all _ _ _ HXB.out (HR.out.same HS.out.nil)
        have hw8 := waits_L w.heap.size bn 1 (by omega) l6 w8 HN.out
        rw [HL6.out, List.length_replicate] at hw8
        have HW8 := Lib.hid hw8
        clear hw8 HL6 HN
        go_wp2_with fail
        go_loop [105] (fun i => ∃ j : Nat, j ≤ nb ∧ i = .int .i64 (j : Int)) (fun i => nb - (intOf i).toNat)
        case atStart => exact ⟨0, by omega, rfl⟩
        case round =>
          obtain ⟨j, hj, rfl⟩ := hrel
          by_cases hlt : j < nb
          · obtain ⟨y, hy⟩ : ∃ y, ys[j]? = some y := ⟨_, List.getElem?_eq_getElem (by rw [HYL.out]; exact hlt)⟩
            obtain ⟨z, hz⟩ : ∃ z, xs[j]? = some z := ⟨_, List.getElem?_eq_getElem (by rw [HXL.out]; exact hlt)⟩
            obtain ⟨g1, o1, c1, hv1, hh1, hm1, hc1⟩ := HOb.out.at (j := j) (x := .int .u8 (y : Int)) (by rw [u8s_get, hy]; rfl)
            obtain ⟨g2, o2, c2, hv2, hh2, hm2, hc2⟩ := (HR.out.same HS.out.nil).cellAt (j := j) (x := .int .u8 (z : Int)) (by rw [u8s_get, hz]; rfl)
            injection hv1 with e1 e2 e3
            injection hv2 with f1 f2 f3
            have hcb : nb ≤ cb := by omega
            have hcbm : cb ≤ 9223372036854775807 := by unfold maxLen at hm1; omega
            subst e1
            subst f1
            clear e2 e3 f2 f3 hh1 hh2 hm1 hm2
            have hji : (j : Int) < (nb : Int) := by omega
            have hzb : z < 256 := HXB.out z (List.mem_of_getElem? hz)
            by_cases hjk : j = kd
            · subst hjk
              obtain rfl : x = z := by have := HX.out; rw [hz] at this; exact (Option.some.inj this).symm
              obtain rfl : flipN x km = y := by have := HYX.out; rw [hy] at this; exact (Option.some.inj this).symm
              have hbit : bits BinOp.xor IntKind.u8 (x : Int) (2 ^ km % 256) = ((flipN x km : Nat) : Int) := by have := HF.out.1; unfold flipV at this; rw [wrap_u8m] at this; injection this
              clear hy hz
              go_wp2
              go_round
              case rel => exact ⟨j + 1, by omega, by go_num⟩
              case measure => simp [intOf]; omega
            · obtain rfl : y = z := by
                have := HYS.out
                rw [this, List.getElem?_set_ne (fun e => hjk e.symm), hz] at hy
                exact (Option.some.inj hy).symm
              have hjk2 : ((j : Int) == (kd : Int)) = false := by simp; omega
              clear hy hz hjk
              go_wp2
              go_round
              case rel => exact ⟨j + 1, by omega, by go_num⟩
              case measure => simp [intOf]; omega
          · obtain rfl : j = nb := by omega
            go_wp2_with (first | (go_at_call 34; refine HW8.out.mono ?_; rintro e w9 ⟨rfl, rfl⟩) | (go_at_call 31; refine (netWakes_any _).mono ?_; rintro e w10 ⟨rfl, hs4⟩; replace HS := Lib.hid (HS.out.trans (StepB.of hs4)); clear hs4))
            go_ret
            exact ⟨rfl, HS.out.nil⟩
end Go.Proofs.Ytnomnhlfenhjdaa
