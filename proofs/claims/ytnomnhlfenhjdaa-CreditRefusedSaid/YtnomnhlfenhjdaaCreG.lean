/- credit: the walk of CreditRefused. No statement is proved here; nothing is assumed. -/
import Derived.Test.YtnomnhlfenhjdaaCreF
import Derived.OwnWalkIn
import Derived.TacticsInMore
import Derived.LoopNIn
import Derived.LoopIn
import Derived.Deep.QuietTactic
import Derived.BigQuiet
import Derived.Maps.OwnIn
import Derived.Deep.RegionHeld3
import Derived.Laws.Bits64
import Derived.Laws.ResultCell
namespace Go.Proofs.Ytnomnhlfenhjdaa
open Go.RowKit Go.Shelf
set_option linter.unusedVariables false
attribute [local go_sem] Oper.semAt_some

set_option maxRecDepth 100000 in
set_option maxHeartbeats 4000000 in
theorem refused_lt_neg_err (L S m l : Nat) (n : Int) (T : Nat) (hm : m = L + 1) (hL : L < 256) (hS : S < 256) (hkm : S ≤ m) (hl : l = m - S) (hT : T < 18446744073709551616) (hSm : S ≤ m) (hn : n < 0) (ht : S + m < T) (w : World) : Calls Try.prog 5 #[.int .u8 (L : Int), .int .u8 (S : Int), .int .i64 n, .int .u64 (T : Int)] w fun e w' => e = .returned (.bool true) ∧ Step [] w w' := by
  have hm2 : m ≤ 256 := by omega
  have HM1 := Lib.hid (show 1 ≤ m by omega)
  have HM2 := Lib.hid (show m ≤ 8192 by omega)
  have em : (1 : Int) + (L : Int) = (m : Int) := by omega
  have emin : ((m : Int) < (S : Int)) = False := by simp; omega
  have HK1 := Lib.hid (show (S : Int) < 9223372036854775808 by omega)
  have HK2 := Lib.hid (show S ≤ m - 0 by omega)
  have HK := Lib.hid hkm
  have HL := Lib.hid (show ((m - S : Nat) : Int) = (l : Int) by omega)
  have HN := Lib.hid (show n < 9223372036854775808 by omega)
  have HA8 := Lib.hid (show amt 8 n (m - S) = 1 from amt_neg hn)
  have HA7 := Lib.hid (show amt 7 n (m - S) = 1 from amt_neg hn)
  have HP8 := Lib.hid (show paid n S (m - S) = S from paid_neg hn)
  have HL2 := Lib.hid (show ((m - S : Nat) : Int) = (l : Int) by omega)
  have HH2 := Lib.hid (show ((S - 0 : Nat) : Int) = (S : Int) by omega)
  have HT := Lib.hid hT
  have HE := Lib.hid (show lateE m S T = 24 from if_pos ht)
  have HG := Lib.hid (show lateG m m S T = m from if_pos ht)
  have HP3 := Lib.hid (show S ≤ m by omega)
  have HG3 := Lib.hid (show m < 4611686018427387904 by omega)
  have HL3 := Lib.hid (show ((m - S : Nat) : Int) = (l : Int) by omega)
  have t1 : (n < 0) = True := by simp; omega
  have t2 : (0 ≤ n) = False := by simp; omega
  have t3 : ((l : Int) < n) = False := by simp; omega
  have t4 : (n ≤ (l : Int)) = True := by simp; omega
  have w1 : (m : Int) - (l : Int) = (S : Int) := by omega
  have w2 : IntKind.u64.wrap (S : Int) = (S : Int) := by rw [IntKind.wrap_u64]; omega
  have w3 : IntKind.u64.wrap ((S : Int) + (m : Int)) = (S : Int) + (m : Int) := by rw [IntKind.wrap_u64]; omega
  have w4 : IntKind.u64.wrap (m : Int) = (m : Int) := by rw [IntKind.wrap_u64]; omega
  have t5 : ((S : Int) + (m : Int) < (T : Int)) = True := by simp; omega
  have t6 : ((T : Int) ≤ (m : Int)) = False := by simp; omega
  have HH := Lib.hid (show S = S by omega)
  clear hm hkm hl hT hSm ht hn
  go_enter Try.func5, Try.ntmps5
  go_wp2_with fail
  refine (newSp_ok m HM1.out HM2.out _).mono ?_
  rintro e wx1 ⟨bs, rfl, hb, h, hs⟩
  have HB_bs := Lib.hid (show w.heap.size ≤ bs from hb)
  have H_bs := Lib.hid h
  have HS := Lib.hid hs
  clear h hb hs
  go_wp2_with fail
  refine (newGv_ok m HM1.out HM2.out _).mono ?_
  rintro e wx2 ⟨bg, rfl, hb, h, hs⟩
  have HN_bs_bg := Lib.hid (show bs ≠ bg by have := heap_lt H_bs.out; omega)
  have HB_bg := Lib.hid (show w.heap.size ≤ bg from Nat.le_trans HS.out.size hb)
  replace H_bs := Lib.hid (show SpAt wx2 bs m m 0 from obj_step H_bs.out hs (by simp))
  have H_bg := Lib.hid h
  replace HS := Lib.hid (HS.out.trans hs)
  clear h hb hs
  go_wp2_with fail
  refine (spend_is bs m m 0 S (S : Int) 0 HK1.out HM1.out (by omega) (by have := HM2.out; omega) (amt_ok HK2.out) (by rw [paid_ok HK2.out]; have := HH.out; omega) _ H_bs.out).mono ?_
  rintro e wx3 ⟨rfl, h, hs⟩
  replace H_bs := Lib.hid h
  replace H_bg := Lib.hid (show GvAt wx3 bg m m 0 0 from obj_step H_bg.out hs (by simp; exact HN_bs_bg.out.symm))
  replace HS := Lib.hid (two_of (bg := 0) HS.out HB_bs.out hs)
  clear h hs
  go_wp2_with fail
  refine (take_is bg m m 0 0 S (S : Int) 0 HK1.out HM1.out (by omega) (by have := HM2.out; omega) (amt_ok HK2.out) (by rw [paid_ok HK2.out]; have := HH.out; omega) _ H_bg.out).mono ?_
  rintro e wx4 ⟨rfl, h, hs⟩
  replace H_bg := Lib.hid h
  replace H_bs := Lib.hid (show SpAt wx4 bs m m S from obj_step H_bs.out hs (by simp; exact HN_bs_bg.out))
  replace HS := Lib.hid (two_of (bg := 0) HS.out HB_bg.out hs)
  clear h hs
  go_wp2_with fail
  refine (left_is bs m m S (l : Int) HM1.out HK.out (by have := HM2.out; omega) HL.out _ H_bs.out).mono ?_
  rintro e wx5 ⟨rfl, h, hs⟩
  replace H_bs := Lib.hid h
  replace H_bg := Lib.hid (show GvAt wx5 bg m m S 0 from obj_step H_bg.out hs (by simp; exact HN_bs_bg.out.symm))
  replace HS := Lib.hid (two_of (bg := 0) HS.out HB_bs.out hs)
  clear h hs
  go_wp2_with fail
  refine (held_is bg m m S 0 (S : Int) HM1.out (by omega) (by have := HK.out; have := HM2.out; omega) (by omega) _ H_bg.out).mono ?_
  rintro e wx6 ⟨rfl, h, hs⟩
  replace H_bg := Lib.hid h
  replace H_bs := Lib.hid (show SpAt wx6 bs m m S from obj_step H_bs.out hs (by simp; exact HN_bs_bg.out))
  replace HS := Lib.hid (two_of (bg := 0) HS.out HB_bg.out hs)
  clear h hs
  go_wp2_with fail
  refine (spend_is bs m m S S n 1 HN.out HM1.out HK.out (by have := HM2.out; omega) HA8.out HP8.out _ H_bs.out).mono ?_
  rintro e wx7 ⟨rfl, h, hs⟩
  replace H_bs := Lib.hid h
  replace H_bg := Lib.hid (show GvAt wx7 bg m m S 0 from obj_step H_bg.out hs (by simp; exact HN_bs_bg.out.symm))
  replace HS := Lib.hid (two_of (bg := 0) HS.out HB_bs.out hs)
  clear h hs
  go_wp2_with fail
  refine (take_is bg m m S 0 S n 1 HN.out HM1.out HK.out (by have := HM2.out; omega) HA7.out HP8.out _ H_bg.out).mono ?_
  rintro e wx8 ⟨rfl, h, hs⟩
  replace H_bg := Lib.hid h
  replace H_bs := Lib.hid (show SpAt wx8 bs m m S from obj_step H_bs.out hs (by simp; exact HN_bs_bg.out))
  replace HS := Lib.hid (two_of (bg := 0) HS.out HB_bg.out hs)
  clear h hs
  go_wp2_with fail
  refine (left_is bs m m S (l : Int) HM1.out HK.out (by have := HM2.out; omega) HL2.out _ H_bs.out).mono ?_
  rintro e wx9 ⟨rfl, h, hs⟩
  replace H_bs := Lib.hid h
  replace H_bg := Lib.hid (show GvAt wx9 bg m m S 0 from obj_step H_bg.out hs (by simp; exact HN_bs_bg.out.symm))
  replace HS := Lib.hid (two_of (bg := 0) HS.out HB_bs.out hs)
  clear h hs
  go_wp2_with fail
  refine (held_is bg m m S 0 (S : Int) HM1.out (by omega) (by have := HK.out; have := HM2.out; omega) HH2.out _ H_bg.out).mono ?_
  rintro e wx10 ⟨rfl, h, hs⟩
  replace H_bg := Lib.hid h
  replace H_bs := Lib.hid (show SpAt wx10 bs m m S from obj_step H_bs.out hs (by simp; exact HN_bs_bg.out))
  replace HS := Lib.hid (two_of (bg := 0) HS.out HB_bg.out hs)
  clear h hs
  go_wp2_with fail
  refine (left_is bs m m S (l : Int) HM1.out HK.out (by have := HM2.out; omega) HL2.out _ H_bs.out).mono ?_
  rintro e wx11 ⟨rfl, h, hs⟩
  replace H_bs := Lib.hid h
  replace H_bg := Lib.hid (show GvAt wx11 bg m m S 0 from obj_step H_bg.out hs (by simp; exact HN_bs_bg.out.symm))
  replace HS := Lib.hid (two_of (bg := 0) HS.out HB_bs.out hs)
  clear h hs
  clear H_bg
  go_wp2_with fail
  refine (granted_is bs m m S m 24 _ T rfl HM1.out (by have := HM2.out; omega) HK.out (by have := HM2.out; omega) HT.out HE.out HG.out _ H_bs.out).mono ?_
  rintro e wx12 ⟨rfl, h, hs⟩
  replace H_bs := Lib.hid h
  replace HS := Lib.hid (two_of (bg := 0) HS.out HB_bs.out hs)
  clear h hs
  go_wp2_with fail
  refine (left_is bs m m S (l : Int) HM1.out HP3.out HG3.out HL3.out _ H_bs.out).mono ?_
  rintro e wx13 ⟨rfl, h, hs⟩
  replace H_bs := Lib.hid h
  replace HS := Lib.hid (two_of (bg := 0) HS.out HB_bs.out hs)
  clear h hs
  go_wp2_with fail
  refine (wakes_any _).mono ?_
  rintro e wx14 ⟨rfl, hs⟩
  replace H_bs := Lib.hid (show SpAt wx14 bs m m S from obj_step H_bs.out hs (by simp))
  replace HS := Lib.hid (HS.out.trans hs)
  clear hs
  go_wp2_with fail
  go_ret
  exact ⟨rfl, HS.out⟩

set_option maxRecDepth 100000 in
set_option maxHeartbeats 4000000 in
theorem refused_lt_neg_old (L S m l : Nat) (n : Int) (T : Nat) (hm : m = L + 1) (hL : L < 256) (hS : S < 256) (hkm : S ≤ m) (hl : l = m - S) (hT : T < 18446744073709551616) (hSm : S ≤ m) (hn : n < 0) (ht : T ≤ m) (w : World) : Calls Try.prog 5 #[.int .u8 (L : Int), .int .u8 (S : Int), .int .i64 n, .int .u64 (T : Int)] w fun e w' => e = .returned (.bool true) ∧ Step [] w w' := by
  have hm2 : m ≤ 256 := by omega
  have HM1 := Lib.hid (show 1 ≤ m by omega)
  have HM2 := Lib.hid (show m ≤ 8192 by omega)
  have em : (1 : Int) + (L : Int) = (m : Int) := by omega
  have emin : ((m : Int) < (S : Int)) = False := by simp; omega
  have HK1 := Lib.hid (show (S : Int) < 9223372036854775808 by omega)
  have HK2 := Lib.hid (show S ≤ m - 0 by omega)
  have HK := Lib.hid hkm
  have HL := Lib.hid (show ((m - S : Nat) : Int) = (l : Int) by omega)
  have HN := Lib.hid (show n < 9223372036854775808 by omega)
  have HA8 := Lib.hid (show amt 8 n (m - S) = 1 from amt_neg hn)
  have HA7 := Lib.hid (show amt 7 n (m - S) = 1 from amt_neg hn)
  have HP8 := Lib.hid (show paid n S (m - S) = S from paid_neg hn)
  have HL2 := Lib.hid (show ((m - S : Nat) : Int) = (l : Int) by omega)
  have HH2 := Lib.hid (show ((S - 0 : Nat) : Int) = (S : Int) by omega)
  have HT := Lib.hid hT
  have HE := Lib.hid (show lateE m S T = 0 from if_neg (by omega))
  have HG := Lib.hid (show lateG m m S T = m from (if_neg (by omega)).trans (by omega))
  have HP3 := Lib.hid (show S ≤ m by omega)
  have HG3 := Lib.hid (show m < 4611686018427387904 by omega)
  have HL3 := Lib.hid (show ((m - S : Nat) : Int) = (l : Int) by omega)
  have t1 : (n < 0) = True := by simp; omega
  have t2 : (0 ≤ n) = False := by simp; omega
  have t3 : ((l : Int) < n) = False := by simp; omega
  have t4 : (n ≤ (l : Int)) = True := by simp; omega
  have w1 : (m : Int) - (l : Int) = (S : Int) := by omega
  have w2 : IntKind.u64.wrap (S : Int) = (S : Int) := by rw [IntKind.wrap_u64]; omega
  have w3 : IntKind.u64.wrap ((S : Int) + (m : Int)) = (S : Int) + (m : Int) := by rw [IntKind.wrap_u64]; omega
  have w4 : IntKind.u64.wrap (m : Int) = (m : Int) := by rw [IntKind.wrap_u64]; omega
  have t5 : ((S : Int) + (m : Int) < (T : Int)) = False := by simp; omega
  have t6 : ((T : Int) ≤ (m : Int)) = True := by simp; omega
  have HH := Lib.hid (show S = S by omega)
  clear hm hkm hl hT hSm ht hn
  go_enter Try.func5, Try.ntmps5
  go_wp2_with fail
  refine (newSp_ok m HM1.out HM2.out _).mono ?_
  rintro e wx1 ⟨bs, rfl, hb, h, hs⟩
  have HB_bs := Lib.hid (show w.heap.size ≤ bs from hb)
  have H_bs := Lib.hid h
  have HS := Lib.hid hs
  clear h hb hs
  go_wp2_with fail
  refine (newGv_ok m HM1.out HM2.out _).mono ?_
  rintro e wx2 ⟨bg, rfl, hb, h, hs⟩
  have HN_bs_bg := Lib.hid (show bs ≠ bg by have := heap_lt H_bs.out; omega)
  have HB_bg := Lib.hid (show w.heap.size ≤ bg from Nat.le_trans HS.out.size hb)
  replace H_bs := Lib.hid (show SpAt wx2 bs m m 0 from obj_step H_bs.out hs (by simp))
  have H_bg := Lib.hid h
  replace HS := Lib.hid (HS.out.trans hs)
  clear h hb hs
  go_wp2_with fail
  refine (spend_is bs m m 0 S (S : Int) 0 HK1.out HM1.out (by omega) (by have := HM2.out; omega) (amt_ok HK2.out) (by rw [paid_ok HK2.out]; have := HH.out; omega) _ H_bs.out).mono ?_
  rintro e wx3 ⟨rfl, h, hs⟩
  replace H_bs := Lib.hid h
  replace H_bg := Lib.hid (show GvAt wx3 bg m m 0 0 from obj_step H_bg.out hs (by simp; exact HN_bs_bg.out.symm))
  replace HS := Lib.hid (two_of (bg := 0) HS.out HB_bs.out hs)
  clear h hs
  go_wp2_with fail
  refine (take_is bg m m 0 0 S (S : Int) 0 HK1.out HM1.out (by omega) (by have := HM2.out; omega) (amt_ok HK2.out) (by rw [paid_ok HK2.out]; have := HH.out; omega) _ H_bg.out).mono ?_
  rintro e wx4 ⟨rfl, h, hs⟩
  replace H_bg := Lib.hid h
  replace H_bs := Lib.hid (show SpAt wx4 bs m m S from obj_step H_bs.out hs (by simp; exact HN_bs_bg.out))
  replace HS := Lib.hid (two_of (bg := 0) HS.out HB_bg.out hs)
  clear h hs
  go_wp2_with fail
  refine (left_is bs m m S (l : Int) HM1.out HK.out (by have := HM2.out; omega) HL.out _ H_bs.out).mono ?_
  rintro e wx5 ⟨rfl, h, hs⟩
  replace H_bs := Lib.hid h
  replace H_bg := Lib.hid (show GvAt wx5 bg m m S 0 from obj_step H_bg.out hs (by simp; exact HN_bs_bg.out.symm))
  replace HS := Lib.hid (two_of (bg := 0) HS.out HB_bs.out hs)
  clear h hs
  go_wp2_with fail
  refine (held_is bg m m S 0 (S : Int) HM1.out (by omega) (by have := HK.out; have := HM2.out; omega) (by omega) _ H_bg.out).mono ?_
  rintro e wx6 ⟨rfl, h, hs⟩
  replace H_bg := Lib.hid h
  replace H_bs := Lib.hid (show SpAt wx6 bs m m S from obj_step H_bs.out hs (by simp; exact HN_bs_bg.out))
  replace HS := Lib.hid (two_of (bg := 0) HS.out HB_bg.out hs)
  clear h hs
  go_wp2_with fail
  refine (spend_is bs m m S S n 1 HN.out HM1.out HK.out (by have := HM2.out; omega) HA8.out HP8.out _ H_bs.out).mono ?_
  rintro e wx7 ⟨rfl, h, hs⟩
  replace H_bs := Lib.hid h
  replace H_bg := Lib.hid (show GvAt wx7 bg m m S 0 from obj_step H_bg.out hs (by simp; exact HN_bs_bg.out.symm))
  replace HS := Lib.hid (two_of (bg := 0) HS.out HB_bs.out hs)
  clear h hs
  go_wp2_with fail
  refine (take_is bg m m S 0 S n 1 HN.out HM1.out HK.out (by have := HM2.out; omega) HA7.out HP8.out _ H_bg.out).mono ?_
  rintro e wx8 ⟨rfl, h, hs⟩
  replace H_bg := Lib.hid h
  replace H_bs := Lib.hid (show SpAt wx8 bs m m S from obj_step H_bs.out hs (by simp; exact HN_bs_bg.out))
  replace HS := Lib.hid (two_of (bg := 0) HS.out HB_bg.out hs)
  clear h hs
  go_wp2_with fail
  refine (left_is bs m m S (l : Int) HM1.out HK.out (by have := HM2.out; omega) HL2.out _ H_bs.out).mono ?_
  rintro e wx9 ⟨rfl, h, hs⟩
  replace H_bs := Lib.hid h
  replace H_bg := Lib.hid (show GvAt wx9 bg m m S 0 from obj_step H_bg.out hs (by simp; exact HN_bs_bg.out.symm))
  replace HS := Lib.hid (two_of (bg := 0) HS.out HB_bs.out hs)
  clear h hs
  go_wp2_with fail
  refine (held_is bg m m S 0 (S : Int) HM1.out (by omega) (by have := HK.out; have := HM2.out; omega) HH2.out _ H_bg.out).mono ?_
  rintro e wx10 ⟨rfl, h, hs⟩
  replace H_bg := Lib.hid h
  replace H_bs := Lib.hid (show SpAt wx10 bs m m S from obj_step H_bs.out hs (by simp; exact HN_bs_bg.out))
  replace HS := Lib.hid (two_of (bg := 0) HS.out HB_bg.out hs)
  clear h hs
  go_wp2_with fail
  refine (left_is bs m m S (l : Int) HM1.out HK.out (by have := HM2.out; omega) HL2.out _ H_bs.out).mono ?_
  rintro e wx11 ⟨rfl, h, hs⟩
  replace H_bs := Lib.hid h
  replace H_bg := Lib.hid (show GvAt wx11 bg m m S 0 from obj_step H_bg.out hs (by simp; exact HN_bs_bg.out.symm))
  replace HS := Lib.hid (two_of (bg := 0) HS.out HB_bs.out hs)
  clear h hs
  clear H_bg
  go_wp2_with fail
  refine (granted_is bs m m S m 0 _ T rfl HM1.out (by have := HM2.out; omega) HK.out (by have := HM2.out; omega) HT.out HE.out HG.out _ H_bs.out).mono ?_
  rintro e wx12 ⟨rfl, h, hs⟩
  replace H_bs := Lib.hid h
  replace HS := Lib.hid (two_of (bg := 0) HS.out HB_bs.out hs)
  clear h hs
  go_wp2_with fail
  refine (left_is bs m m S (l : Int) HM1.out HP3.out HG3.out HL3.out _ H_bs.out).mono ?_
  rintro e wx13 ⟨rfl, h, hs⟩
  replace H_bs := Lib.hid h
  replace HS := Lib.hid (two_of (bg := 0) HS.out HB_bs.out hs)
  clear h hs
  go_wp2_with fail
  refine (wakes_any _).mono ?_
  rintro e wx14 ⟨rfl, hs⟩
  replace H_bs := Lib.hid (show SpAt wx14 bs m m S from obj_step H_bs.out hs (by simp))
  replace HS := Lib.hid (HS.out.trans hs)
  clear hs
  go_wp2_with fail
  go_ret
  exact ⟨rfl, HS.out⟩

set_option maxRecDepth 100000 in
set_option maxHeartbeats 4000000 in
theorem refused_lt_neg_new (L S m l : Nat) (n : Int) (T : Nat) (hm : m = L + 1) (hL : L < 256) (hS : S < 256) (hkm : S ≤ m) (hl : l = m - S) (hT : T < 18446744073709551616) (hSm : S ≤ m) (hn : n < 0) (ht : m < T) (ht2 : T ≤ S + m) (w : World) : Calls Try.prog 5 #[.int .u8 (L : Int), .int .u8 (S : Int), .int .i64 n, .int .u64 (T : Int)] w fun e w' => e = .returned (.bool true) ∧ Step [] w w' := by
  have hm2 : m ≤ 256 := by omega
  have HM1 := Lib.hid (show 1 ≤ m by omega)
  have HM2 := Lib.hid (show m ≤ 8192 by omega)
  have em : (1 : Int) + (L : Int) = (m : Int) := by omega
  have emin : ((m : Int) < (S : Int)) = False := by simp; omega
  have HK1 := Lib.hid (show (S : Int) < 9223372036854775808 by omega)
  have HK2 := Lib.hid (show S ≤ m - 0 by omega)
  have HK := Lib.hid hkm
  have HL := Lib.hid (show ((m - S : Nat) : Int) = (l : Int) by omega)
  have HN := Lib.hid (show n < 9223372036854775808 by omega)
  have HA8 := Lib.hid (show amt 8 n (m - S) = 1 from amt_neg hn)
  have HA7 := Lib.hid (show amt 7 n (m - S) = 1 from amt_neg hn)
  have HP8 := Lib.hid (show paid n S (m - S) = S from paid_neg hn)
  have HL2 := Lib.hid (show ((m - S : Nat) : Int) = (l : Int) by omega)
  have HH2 := Lib.hid (show ((S - 0 : Nat) : Int) = (S : Int) by omega)
  have HT := Lib.hid hT
  have HE := Lib.hid (show lateE m S T = 0 from if_neg (by omega))
  have HG := Lib.hid (show lateG m m S T = T from (if_neg (by omega)).trans (by omega))
  have HP3 := Lib.hid (show S ≤ T by omega)
  have HG3 := Lib.hid (show T < 4611686018427387904 by omega)
  have HL3 := Lib.hid (show ((T - S : Nat) : Int) = ((T : Int) - (S : Int)) by omega)
  have t1 : (n < 0) = True := by simp; omega
  have t2 : (0 ≤ n) = False := by simp; omega
  have t3 : ((l : Int) < n) = False := by simp; omega
  have t4 : (n ≤ (l : Int)) = True := by simp; omega
  have w1 : (m : Int) - (l : Int) = (S : Int) := by omega
  have w2 : IntKind.u64.wrap (S : Int) = (S : Int) := by rw [IntKind.wrap_u64]; omega
  have w3 : IntKind.u64.wrap ((S : Int) + (m : Int)) = (S : Int) + (m : Int) := by rw [IntKind.wrap_u64]; omega
  have w4 : IntKind.u64.wrap (m : Int) = (m : Int) := by rw [IntKind.wrap_u64]; omega
  have t5 : ((S : Int) + (m : Int) < (T : Int)) = False := by simp; omega
  have t6 : ((T : Int) ≤ (m : Int)) = False := by simp; omega
  have w5 : IntKind.u64.wrap ((T : Int) - (S : Int)) = (T : Int) - (S : Int) := by rw [IntKind.wrap_u64]; omega
  have HH := Lib.hid (show S = S by omega)
  clear hm hkm hl hT hSm ht ht2 hn
  go_enter Try.func5, Try.ntmps5
  go_wp2_with fail
  refine (newSp_ok m HM1.out HM2.out _).mono ?_
  rintro e wx1 ⟨bs, rfl, hb, h, hs⟩
  have HB_bs := Lib.hid (show w.heap.size ≤ bs from hb)
  have H_bs := Lib.hid h
  have HS := Lib.hid hs
  clear h hb hs
  go_wp2_with fail
  refine (newGv_ok m HM1.out HM2.out _).mono ?_
  rintro e wx2 ⟨bg, rfl, hb, h, hs⟩
  have HN_bs_bg := Lib.hid (show bs ≠ bg by have := heap_lt H_bs.out; omega)
  have HB_bg := Lib.hid (show w.heap.size ≤ bg from Nat.le_trans HS.out.size hb)
  replace H_bs := Lib.hid (show SpAt wx2 bs m m 0 from obj_step H_bs.out hs (by simp))
  have H_bg := Lib.hid h
  replace HS := Lib.hid (HS.out.trans hs)
  clear h hb hs
  go_wp2_with fail
  refine (spend_is bs m m 0 S (S : Int) 0 HK1.out HM1.out (by omega) (by have := HM2.out; omega) (amt_ok HK2.out) (by rw [paid_ok HK2.out]; have := HH.out; omega) _ H_bs.out).mono ?_
  rintro e wx3 ⟨rfl, h, hs⟩
  replace H_bs := Lib.hid h
  replace H_bg := Lib.hid (show GvAt wx3 bg m m 0 0 from obj_step H_bg.out hs (by simp; exact HN_bs_bg.out.symm))
  replace HS := Lib.hid (two_of (bg := 0) HS.out HB_bs.out hs)
  clear h hs
  go_wp2_with fail
  refine (take_is bg m m 0 0 S (S : Int) 0 HK1.out HM1.out (by omega) (by have := HM2.out; omega) (amt_ok HK2.out) (by rw [paid_ok HK2.out]; have := HH.out; omega) _ H_bg.out).mono ?_
  rintro e wx4 ⟨rfl, h, hs⟩
  replace H_bg := Lib.hid h
  replace H_bs := Lib.hid (show SpAt wx4 bs m m S from obj_step H_bs.out hs (by simp; exact HN_bs_bg.out))
  replace HS := Lib.hid (two_of (bg := 0) HS.out HB_bg.out hs)
  clear h hs
  go_wp2_with fail
  refine (left_is bs m m S (l : Int) HM1.out HK.out (by have := HM2.out; omega) HL.out _ H_bs.out).mono ?_
  rintro e wx5 ⟨rfl, h, hs⟩
  replace H_bs := Lib.hid h
  replace H_bg := Lib.hid (show GvAt wx5 bg m m S 0 from obj_step H_bg.out hs (by simp; exact HN_bs_bg.out.symm))
  replace HS := Lib.hid (two_of (bg := 0) HS.out HB_bs.out hs)
  clear h hs
  go_wp2_with fail
  refine (held_is bg m m S 0 (S : Int) HM1.out (by omega) (by have := HK.out; have := HM2.out; omega) (by omega) _ H_bg.out).mono ?_
  rintro e wx6 ⟨rfl, h, hs⟩
  replace H_bg := Lib.hid h
  replace H_bs := Lib.hid (show SpAt wx6 bs m m S from obj_step H_bs.out hs (by simp; exact HN_bs_bg.out))
  replace HS := Lib.hid (two_of (bg := 0) HS.out HB_bg.out hs)
  clear h hs
  go_wp2_with fail
  refine (spend_is bs m m S S n 1 HN.out HM1.out HK.out (by have := HM2.out; omega) HA8.out HP8.out _ H_bs.out).mono ?_
  rintro e wx7 ⟨rfl, h, hs⟩
  replace H_bs := Lib.hid h
  replace H_bg := Lib.hid (show GvAt wx7 bg m m S 0 from obj_step H_bg.out hs (by simp; exact HN_bs_bg.out.symm))
  replace HS := Lib.hid (two_of (bg := 0) HS.out HB_bs.out hs)
  clear h hs
  go_wp2_with fail
  refine (take_is bg m m S 0 S n 1 HN.out HM1.out HK.out (by have := HM2.out; omega) HA7.out HP8.out _ H_bg.out).mono ?_
  rintro e wx8 ⟨rfl, h, hs⟩
  replace H_bg := Lib.hid h
  replace H_bs := Lib.hid (show SpAt wx8 bs m m S from obj_step H_bs.out hs (by simp; exact HN_bs_bg.out))
  replace HS := Lib.hid (two_of (bg := 0) HS.out HB_bg.out hs)
  clear h hs
  go_wp2_with fail
  refine (left_is bs m m S (l : Int) HM1.out HK.out (by have := HM2.out; omega) HL2.out _ H_bs.out).mono ?_
  rintro e wx9 ⟨rfl, h, hs⟩
  replace H_bs := Lib.hid h
  replace H_bg := Lib.hid (show GvAt wx9 bg m m S 0 from obj_step H_bg.out hs (by simp; exact HN_bs_bg.out.symm))
  replace HS := Lib.hid (two_of (bg := 0) HS.out HB_bs.out hs)
  clear h hs
  go_wp2_with fail
  refine (held_is bg m m S 0 (S : Int) HM1.out (by omega) (by have := HK.out; have := HM2.out; omega) HH2.out _ H_bg.out).mono ?_
  rintro e wx10 ⟨rfl, h, hs⟩
  replace H_bg := Lib.hid h
  replace H_bs := Lib.hid (show SpAt wx10 bs m m S from obj_step H_bs.out hs (by simp; exact HN_bs_bg.out))
  replace HS := Lib.hid (two_of (bg := 0) HS.out HB_bg.out hs)
  clear h hs
  go_wp2_with fail
  refine (left_is bs m m S (l : Int) HM1.out HK.out (by have := HM2.out; omega) HL2.out _ H_bs.out).mono ?_
  rintro e wx11 ⟨rfl, h, hs⟩
  replace H_bs := Lib.hid h
  replace H_bg := Lib.hid (show GvAt wx11 bg m m S 0 from obj_step H_bg.out hs (by simp; exact HN_bs_bg.out.symm))
  replace HS := Lib.hid (two_of (bg := 0) HS.out HB_bs.out hs)
  clear h hs
  clear H_bg
  go_wp2_with fail
  refine (granted_is bs m m S T 0 _ T rfl HM1.out (by have := HM2.out; omega) HK.out (by have := HM2.out; omega) HT.out HE.out HG.out _ H_bs.out).mono ?_
  rintro e wx12 ⟨rfl, h, hs⟩
  replace H_bs := Lib.hid h
  replace HS := Lib.hid (two_of (bg := 0) HS.out HB_bs.out hs)
  clear h hs
  go_wp2_with fail
  refine (left_is bs m T S ((T : Int) - (S : Int)) HM1.out HP3.out HG3.out HL3.out _ H_bs.out).mono ?_
  rintro e wx13 ⟨rfl, h, hs⟩
  replace H_bs := Lib.hid h
  replace HS := Lib.hid (two_of (bg := 0) HS.out HB_bs.out hs)
  clear h hs
  go_wp2_with fail
  refine (wakes_any _).mono ?_
  rintro e wx14 ⟨rfl, hs⟩
  replace H_bs := Lib.hid (show SpAt wx14 bs m T S from obj_step H_bs.out hs (by simp))
  replace HS := Lib.hid (HS.out.trans hs)
  clear hs
  go_wp2_with fail
  go_ret
  exact ⟨rfl, HS.out⟩

set_option maxRecDepth 100000 in
set_option maxHeartbeats 4000000 in
theorem refused_lt_over_err (L S m l : Nat) (a : Nat) (T : Nat) (hm : m = L + 1) (hL : L < 256) (hS : S < 256) (hkm : S ≤ m) (hl : l = m - S) (hT : T < 18446744073709551616) (hSm : S ≤ m) (hn : l < a) (hn2 : a < 9223372036854775808) (ht : S + m < T) (w : World) : Calls Try.prog 5 #[.int .u8 (L : Int), .int .u8 (S : Int), .int .i64 (a : Int), .int .u64 (T : Int)] w fun e w' => e = .returned (.bool true) ∧ Step [] w w' := by
  have hm2 : m ≤ 256 := by omega
  have HM1 := Lib.hid (show 1 ≤ m by omega)
  have HM2 := Lib.hid (show m ≤ 8192 by omega)
  have em : (1 : Int) + (L : Int) = (m : Int) := by omega
  have emin : ((m : Int) < (S : Int)) = False := by simp; omega
  have HK1 := Lib.hid (show (S : Int) < 9223372036854775808 by omega)
  have HK2 := Lib.hid (show S ≤ m - 0 by omega)
  have HK := Lib.hid hkm
  have HL := Lib.hid (show ((m - S : Nat) : Int) = (l : Int) by omega)
  have HN := Lib.hid (show (a : Int) < 9223372036854775808 by omega)
  have HA8 := Lib.hid (show amt 8 (a : Int) (m - S) = 8 from amt_over (by omega))
  have HA7 := Lib.hid (show amt 7 (a : Int) (m - S) = 7 from amt_over (by omega))
  have HP8 := Lib.hid (show paid (a : Int) S (m - S) = S from paid_over (by omega))
  have HL2 := Lib.hid (show ((m - S : Nat) : Int) = (l : Int) by omega)
  have HH2 := Lib.hid (show ((S - 0 : Nat) : Int) = (S : Int) by omega)
  have HT := Lib.hid hT
  have HE := Lib.hid (show lateE m S T = 24 from if_pos ht)
  have HG := Lib.hid (show lateG m m S T = m from if_pos ht)
  have HP3 := Lib.hid (show S ≤ m by omega)
  have HG3 := Lib.hid (show m < 4611686018427387904 by omega)
  have HL3 := Lib.hid (show ((m - S : Nat) : Int) = (l : Int) by omega)
  have t3 : ((l : Int) < (a : Int)) = True := by simp; omega
  have t4 : ((a : Int) ≤ (l : Int)) = False := by simp; omega
  have t1 : ((a : Int) < 0) = False := by simp
  have t2 : (0 ≤ (a : Int)) = True := by simp
  have w1 : (m : Int) - (l : Int) = (S : Int) := by omega
  have w2 : IntKind.u64.wrap (S : Int) = (S : Int) := by rw [IntKind.wrap_u64]; omega
  have w3 : IntKind.u64.wrap ((S : Int) + (m : Int)) = (S : Int) + (m : Int) := by rw [IntKind.wrap_u64]; omega
  have w4 : IntKind.u64.wrap (m : Int) = (m : Int) := by rw [IntKind.wrap_u64]; omega
  have t5 : ((S : Int) + (m : Int) < (T : Int)) = True := by simp; omega
  have t6 : ((T : Int) ≤ (m : Int)) = False := by simp; omega
  have HH := Lib.hid (show S = S by omega)
  clear hm hkm hl hT hSm ht hn hn2
  go_enter Try.func5, Try.ntmps5
  go_wp2_with fail
  refine (newSp_ok m HM1.out HM2.out _).mono ?_
  rintro e wx1 ⟨bs, rfl, hb, h, hs⟩
  have HB_bs := Lib.hid (show w.heap.size ≤ bs from hb)
  have H_bs := Lib.hid h
  have HS := Lib.hid hs
  clear h hb hs
  go_wp2_with fail
  refine (newGv_ok m HM1.out HM2.out _).mono ?_
  rintro e wx2 ⟨bg, rfl, hb, h, hs⟩
  have HN_bs_bg := Lib.hid (show bs ≠ bg by have := heap_lt H_bs.out; omega)
  have HB_bg := Lib.hid (show w.heap.size ≤ bg from Nat.le_trans HS.out.size hb)
  replace H_bs := Lib.hid (show SpAt wx2 bs m m 0 from obj_step H_bs.out hs (by simp))
  have H_bg := Lib.hid h
  replace HS := Lib.hid (HS.out.trans hs)
  clear h hb hs
  go_wp2_with fail
  refine (spend_is bs m m 0 S (S : Int) 0 HK1.out HM1.out (by omega) (by have := HM2.out; omega) (amt_ok HK2.out) (by rw [paid_ok HK2.out]; have := HH.out; omega) _ H_bs.out).mono ?_
  rintro e wx3 ⟨rfl, h, hs⟩
  replace H_bs := Lib.hid h
  replace H_bg := Lib.hid (show GvAt wx3 bg m m 0 0 from obj_step H_bg.out hs (by simp; exact HN_bs_bg.out.symm))
  replace HS := Lib.hid (two_of (bg := 0) HS.out HB_bs.out hs)
  clear h hs
  go_wp2_with fail
  refine (take_is bg m m 0 0 S (S : Int) 0 HK1.out HM1.out (by omega) (by have := HM2.out; omega) (amt_ok HK2.out) (by rw [paid_ok HK2.out]; have := HH.out; omega) _ H_bg.out).mono ?_
  rintro e wx4 ⟨rfl, h, hs⟩
  replace H_bg := Lib.hid h
  replace H_bs := Lib.hid (show SpAt wx4 bs m m S from obj_step H_bs.out hs (by simp; exact HN_bs_bg.out))
  replace HS := Lib.hid (two_of (bg := 0) HS.out HB_bg.out hs)
  clear h hs
  go_wp2_with fail
  refine (left_is bs m m S (l : Int) HM1.out HK.out (by have := HM2.out; omega) HL.out _ H_bs.out).mono ?_
  rintro e wx5 ⟨rfl, h, hs⟩
  replace H_bs := Lib.hid h
  replace H_bg := Lib.hid (show GvAt wx5 bg m m S 0 from obj_step H_bg.out hs (by simp; exact HN_bs_bg.out.symm))
  replace HS := Lib.hid (two_of (bg := 0) HS.out HB_bs.out hs)
  clear h hs
  go_wp2_with fail
  refine (held_is bg m m S 0 (S : Int) HM1.out (by omega) (by have := HK.out; have := HM2.out; omega) (by omega) _ H_bg.out).mono ?_
  rintro e wx6 ⟨rfl, h, hs⟩
  replace H_bg := Lib.hid h
  replace H_bs := Lib.hid (show SpAt wx6 bs m m S from obj_step H_bs.out hs (by simp; exact HN_bs_bg.out))
  replace HS := Lib.hid (two_of (bg := 0) HS.out HB_bg.out hs)
  clear h hs
  go_wp2_with fail
  refine (spend_is bs m m S S (a : Int) 8 HN.out HM1.out HK.out (by have := HM2.out; omega) HA8.out HP8.out _ H_bs.out).mono ?_
  rintro e wx7 ⟨rfl, h, hs⟩
  replace H_bs := Lib.hid h
  replace H_bg := Lib.hid (show GvAt wx7 bg m m S 0 from obj_step H_bg.out hs (by simp; exact HN_bs_bg.out.symm))
  replace HS := Lib.hid (two_of (bg := 0) HS.out HB_bs.out hs)
  clear h hs
  go_wp2_with fail
  refine (take_is bg m m S 0 S (a : Int) 7 HN.out HM1.out HK.out (by have := HM2.out; omega) HA7.out HP8.out _ H_bg.out).mono ?_
  rintro e wx8 ⟨rfl, h, hs⟩
  replace H_bg := Lib.hid h
  replace H_bs := Lib.hid (show SpAt wx8 bs m m S from obj_step H_bs.out hs (by simp; exact HN_bs_bg.out))
  replace HS := Lib.hid (two_of (bg := 0) HS.out HB_bg.out hs)
  clear h hs
  go_wp2_with fail
  refine (left_is bs m m S (l : Int) HM1.out HK.out (by have := HM2.out; omega) HL2.out _ H_bs.out).mono ?_
  rintro e wx9 ⟨rfl, h, hs⟩
  replace H_bs := Lib.hid h
  replace H_bg := Lib.hid (show GvAt wx9 bg m m S 0 from obj_step H_bg.out hs (by simp; exact HN_bs_bg.out.symm))
  replace HS := Lib.hid (two_of (bg := 0) HS.out HB_bs.out hs)
  clear h hs
  go_wp2_with fail
  refine (held_is bg m m S 0 (S : Int) HM1.out (by omega) (by have := HK.out; have := HM2.out; omega) HH2.out _ H_bg.out).mono ?_
  rintro e wx10 ⟨rfl, h, hs⟩
  replace H_bg := Lib.hid h
  replace H_bs := Lib.hid (show SpAt wx10 bs m m S from obj_step H_bs.out hs (by simp; exact HN_bs_bg.out))
  replace HS := Lib.hid (two_of (bg := 0) HS.out HB_bg.out hs)
  clear h hs
  go_wp2_with fail
  refine (left_is bs m m S (l : Int) HM1.out HK.out (by have := HM2.out; omega) HL2.out _ H_bs.out).mono ?_
  rintro e wx11 ⟨rfl, h, hs⟩
  replace H_bs := Lib.hid h
  replace H_bg := Lib.hid (show GvAt wx11 bg m m S 0 from obj_step H_bg.out hs (by simp; exact HN_bs_bg.out.symm))
  replace HS := Lib.hid (two_of (bg := 0) HS.out HB_bs.out hs)
  clear h hs
  clear H_bg
  go_wp2_with fail
  refine (granted_is bs m m S m 24 _ T rfl HM1.out (by have := HM2.out; omega) HK.out (by have := HM2.out; omega) HT.out HE.out HG.out _ H_bs.out).mono ?_
  rintro e wx12 ⟨rfl, h, hs⟩
  replace H_bs := Lib.hid h
  replace HS := Lib.hid (two_of (bg := 0) HS.out HB_bs.out hs)
  clear h hs
  go_wp2_with fail
  refine (left_is bs m m S (l : Int) HM1.out HP3.out HG3.out HL3.out _ H_bs.out).mono ?_
  rintro e wx13 ⟨rfl, h, hs⟩
  replace H_bs := Lib.hid h
  replace HS := Lib.hid (two_of (bg := 0) HS.out HB_bs.out hs)
  clear h hs
  go_wp2_with fail
  refine (wakes_any _).mono ?_
  rintro e wx14 ⟨rfl, hs⟩
  replace H_bs := Lib.hid (show SpAt wx14 bs m m S from obj_step H_bs.out hs (by simp))
  replace HS := Lib.hid (HS.out.trans hs)
  clear hs
  go_wp2_with fail
  go_ret
  exact ⟨rfl, HS.out⟩

set_option maxRecDepth 100000 in
set_option maxHeartbeats 4000000 in
theorem refused_lt_over_old (L S m l : Nat) (a : Nat) (T : Nat) (hm : m = L + 1) (hL : L < 256) (hS : S < 256) (hkm : S ≤ m) (hl : l = m - S) (hT : T < 18446744073709551616) (hSm : S ≤ m) (hn : l < a) (hn2 : a < 9223372036854775808) (ht : T ≤ m) (w : World) : Calls Try.prog 5 #[.int .u8 (L : Int), .int .u8 (S : Int), .int .i64 (a : Int), .int .u64 (T : Int)] w fun e w' => e = .returned (.bool true) ∧ Step [] w w' := by
  have hm2 : m ≤ 256 := by omega
  have HM1 := Lib.hid (show 1 ≤ m by omega)
  have HM2 := Lib.hid (show m ≤ 8192 by omega)
  have em : (1 : Int) + (L : Int) = (m : Int) := by omega
  have emin : ((m : Int) < (S : Int)) = False := by simp; omega
  have HK1 := Lib.hid (show (S : Int) < 9223372036854775808 by omega)
  have HK2 := Lib.hid (show S ≤ m - 0 by omega)
  have HK := Lib.hid hkm
  have HL := Lib.hid (show ((m - S : Nat) : Int) = (l : Int) by omega)
  have HN := Lib.hid (show (a : Int) < 9223372036854775808 by omega)
  have HA8 := Lib.hid (show amt 8 (a : Int) (m - S) = 8 from amt_over (by omega))
  have HA7 := Lib.hid (show amt 7 (a : Int) (m - S) = 7 from amt_over (by omega))
  have HP8 := Lib.hid (show paid (a : Int) S (m - S) = S from paid_over (by omega))
  have HL2 := Lib.hid (show ((m - S : Nat) : Int) = (l : Int) by omega)
  have HH2 := Lib.hid (show ((S - 0 : Nat) : Int) = (S : Int) by omega)
  have HT := Lib.hid hT
  have HE := Lib.hid (show lateE m S T = 0 from if_neg (by omega))
  have HG := Lib.hid (show lateG m m S T = m from (if_neg (by omega)).trans (by omega))
  have HP3 := Lib.hid (show S ≤ m by omega)
  have HG3 := Lib.hid (show m < 4611686018427387904 by omega)
  have HL3 := Lib.hid (show ((m - S : Nat) : Int) = (l : Int) by omega)
  have t3 : ((l : Int) < (a : Int)) = True := by simp; omega
  have t4 : ((a : Int) ≤ (l : Int)) = False := by simp; omega
  have t1 : ((a : Int) < 0) = False := by simp
  have t2 : (0 ≤ (a : Int)) = True := by simp
  have w1 : (m : Int) - (l : Int) = (S : Int) := by omega
  have w2 : IntKind.u64.wrap (S : Int) = (S : Int) := by rw [IntKind.wrap_u64]; omega
  have w3 : IntKind.u64.wrap ((S : Int) + (m : Int)) = (S : Int) + (m : Int) := by rw [IntKind.wrap_u64]; omega
  have w4 : IntKind.u64.wrap (m : Int) = (m : Int) := by rw [IntKind.wrap_u64]; omega
  have t5 : ((S : Int) + (m : Int) < (T : Int)) = False := by simp; omega
  have t6 : ((T : Int) ≤ (m : Int)) = True := by simp; omega
  have HH := Lib.hid (show S = S by omega)
  clear hm hkm hl hT hSm ht hn hn2
  go_enter Try.func5, Try.ntmps5
  go_wp2_with fail
  refine (newSp_ok m HM1.out HM2.out _).mono ?_
  rintro e wx1 ⟨bs, rfl, hb, h, hs⟩
  have HB_bs := Lib.hid (show w.heap.size ≤ bs from hb)
  have H_bs := Lib.hid h
  have HS := Lib.hid hs
  clear h hb hs
  go_wp2_with fail
  refine (newGv_ok m HM1.out HM2.out _).mono ?_
  rintro e wx2 ⟨bg, rfl, hb, h, hs⟩
  have HN_bs_bg := Lib.hid (show bs ≠ bg by have := heap_lt H_bs.out; omega)
  have HB_bg := Lib.hid (show w.heap.size ≤ bg from Nat.le_trans HS.out.size hb)
  replace H_bs := Lib.hid (show SpAt wx2 bs m m 0 from obj_step H_bs.out hs (by simp))
  have H_bg := Lib.hid h
  replace HS := Lib.hid (HS.out.trans hs)
  clear h hb hs
  go_wp2_with fail
  refine (spend_is bs m m 0 S (S : Int) 0 HK1.out HM1.out (by omega) (by have := HM2.out; omega) (amt_ok HK2.out) (by rw [paid_ok HK2.out]; have := HH.out; omega) _ H_bs.out).mono ?_
  rintro e wx3 ⟨rfl, h, hs⟩
  replace H_bs := Lib.hid h
  replace H_bg := Lib.hid (show GvAt wx3 bg m m 0 0 from obj_step H_bg.out hs (by simp; exact HN_bs_bg.out.symm))
  replace HS := Lib.hid (two_of (bg := 0) HS.out HB_bs.out hs)
  clear h hs
  go_wp2_with fail
  refine (take_is bg m m 0 0 S (S : Int) 0 HK1.out HM1.out (by omega) (by have := HM2.out; omega) (amt_ok HK2.out) (by rw [paid_ok HK2.out]; have := HH.out; omega) _ H_bg.out).mono ?_
  rintro e wx4 ⟨rfl, h, hs⟩
  replace H_bg := Lib.hid h
  replace H_bs := Lib.hid (show SpAt wx4 bs m m S from obj_step H_bs.out hs (by simp; exact HN_bs_bg.out))
  replace HS := Lib.hid (two_of (bg := 0) HS.out HB_bg.out hs)
  clear h hs
  go_wp2_with fail
  refine (left_is bs m m S (l : Int) HM1.out HK.out (by have := HM2.out; omega) HL.out _ H_bs.out).mono ?_
  rintro e wx5 ⟨rfl, h, hs⟩
  replace H_bs := Lib.hid h
  replace H_bg := Lib.hid (show GvAt wx5 bg m m S 0 from obj_step H_bg.out hs (by simp; exact HN_bs_bg.out.symm))
  replace HS := Lib.hid (two_of (bg := 0) HS.out HB_bs.out hs)
  clear h hs
  go_wp2_with fail
  refine (held_is bg m m S 0 (S : Int) HM1.out (by omega) (by have := HK.out; have := HM2.out; omega) (by omega) _ H_bg.out).mono ?_
  rintro e wx6 ⟨rfl, h, hs⟩
  replace H_bg := Lib.hid h
  replace H_bs := Lib.hid (show SpAt wx6 bs m m S from obj_step H_bs.out hs (by simp; exact HN_bs_bg.out))
  replace HS := Lib.hid (two_of (bg := 0) HS.out HB_bg.out hs)
  clear h hs
  go_wp2_with fail
  refine (spend_is bs m m S S (a : Int) 8 HN.out HM1.out HK.out (by have := HM2.out; omega) HA8.out HP8.out _ H_bs.out).mono ?_
  rintro e wx7 ⟨rfl, h, hs⟩
  replace H_bs := Lib.hid h
  replace H_bg := Lib.hid (show GvAt wx7 bg m m S 0 from obj_step H_bg.out hs (by simp; exact HN_bs_bg.out.symm))
  replace HS := Lib.hid (two_of (bg := 0) HS.out HB_bs.out hs)
  clear h hs
  go_wp2_with fail
  refine (take_is bg m m S 0 S (a : Int) 7 HN.out HM1.out HK.out (by have := HM2.out; omega) HA7.out HP8.out _ H_bg.out).mono ?_
  rintro e wx8 ⟨rfl, h, hs⟩
  replace H_bg := Lib.hid h
  replace H_bs := Lib.hid (show SpAt wx8 bs m m S from obj_step H_bs.out hs (by simp; exact HN_bs_bg.out))
  replace HS := Lib.hid (two_of (bg := 0) HS.out HB_bg.out hs)
  clear h hs
  go_wp2_with fail
  refine (left_is bs m m S (l : Int) HM1.out HK.out (by have := HM2.out; omega) HL2.out _ H_bs.out).mono ?_
  rintro e wx9 ⟨rfl, h, hs⟩
  replace H_bs := Lib.hid h
  replace H_bg := Lib.hid (show GvAt wx9 bg m m S 0 from obj_step H_bg.out hs (by simp; exact HN_bs_bg.out.symm))
  replace HS := Lib.hid (two_of (bg := 0) HS.out HB_bs.out hs)
  clear h hs
  go_wp2_with fail
  refine (held_is bg m m S 0 (S : Int) HM1.out (by omega) (by have := HK.out; have := HM2.out; omega) HH2.out _ H_bg.out).mono ?_
  rintro e wx10 ⟨rfl, h, hs⟩
  replace H_bg := Lib.hid h
  replace H_bs := Lib.hid (show SpAt wx10 bs m m S from obj_step H_bs.out hs (by simp; exact HN_bs_bg.out))
  replace HS := Lib.hid (two_of (bg := 0) HS.out HB_bg.out hs)
  clear h hs
  go_wp2_with fail
  refine (left_is bs m m S (l : Int) HM1.out HK.out (by have := HM2.out; omega) HL2.out _ H_bs.out).mono ?_
  rintro e wx11 ⟨rfl, h, hs⟩
  replace H_bs := Lib.hid h
  replace H_bg := Lib.hid (show GvAt wx11 bg m m S 0 from obj_step H_bg.out hs (by simp; exact HN_bs_bg.out.symm))
  replace HS := Lib.hid (two_of (bg := 0) HS.out HB_bs.out hs)
  clear h hs
  clear H_bg
  go_wp2_with fail
  refine (granted_is bs m m S m 0 _ T rfl HM1.out (by have := HM2.out; omega) HK.out (by have := HM2.out; omega) HT.out HE.out HG.out _ H_bs.out).mono ?_
  rintro e wx12 ⟨rfl, h, hs⟩
  replace H_bs := Lib.hid h
  replace HS := Lib.hid (two_of (bg := 0) HS.out HB_bs.out hs)
  clear h hs
  go_wp2_with fail
  refine (left_is bs m m S (l : Int) HM1.out HP3.out HG3.out HL3.out _ H_bs.out).mono ?_
  rintro e wx13 ⟨rfl, h, hs⟩
  replace H_bs := Lib.hid h
  replace HS := Lib.hid (two_of (bg := 0) HS.out HB_bs.out hs)
  clear h hs
  go_wp2_with fail
  refine (wakes_any _).mono ?_
  rintro e wx14 ⟨rfl, hs⟩
  replace H_bs := Lib.hid (show SpAt wx14 bs m m S from obj_step H_bs.out hs (by simp))
  replace HS := Lib.hid (HS.out.trans hs)
  clear hs
  go_wp2_with fail
  go_ret
  exact ⟨rfl, HS.out⟩

set_option maxRecDepth 100000 in
set_option maxHeartbeats 4000000 in
theorem refused_lt_over_new (L S m l : Nat) (a : Nat) (T : Nat) (hm : m = L + 1) (hL : L < 256) (hS : S < 256) (hkm : S ≤ m) (hl : l = m - S) (hT : T < 18446744073709551616) (hSm : S ≤ m) (hn : l < a) (hn2 : a < 9223372036854775808) (ht : m < T) (ht2 : T ≤ S + m) (w : World) : Calls Try.prog 5 #[.int .u8 (L : Int), .int .u8 (S : Int), .int .i64 (a : Int), .int .u64 (T : Int)] w fun e w' => e = .returned (.bool true) ∧ Step [] w w' := by
  have hm2 : m ≤ 256 := by omega
  have HM1 := Lib.hid (show 1 ≤ m by omega)
  have HM2 := Lib.hid (show m ≤ 8192 by omega)
  have em : (1 : Int) + (L : Int) = (m : Int) := by omega
  have emin : ((m : Int) < (S : Int)) = False := by simp; omega
  have HK1 := Lib.hid (show (S : Int) < 9223372036854775808 by omega)
  have HK2 := Lib.hid (show S ≤ m - 0 by omega)
  have HK := Lib.hid hkm
  have HL := Lib.hid (show ((m - S : Nat) : Int) = (l : Int) by omega)
  have HN := Lib.hid (show (a : Int) < 9223372036854775808 by omega)
  have HA8 := Lib.hid (show amt 8 (a : Int) (m - S) = 8 from amt_over (by omega))
  have HA7 := Lib.hid (show amt 7 (a : Int) (m - S) = 7 from amt_over (by omega))
  have HP8 := Lib.hid (show paid (a : Int) S (m - S) = S from paid_over (by omega))
  have HL2 := Lib.hid (show ((m - S : Nat) : Int) = (l : Int) by omega)
  have HH2 := Lib.hid (show ((S - 0 : Nat) : Int) = (S : Int) by omega)
  have HT := Lib.hid hT
  have HE := Lib.hid (show lateE m S T = 0 from if_neg (by omega))
  have HG := Lib.hid (show lateG m m S T = T from (if_neg (by omega)).trans (by omega))
  have HP3 := Lib.hid (show S ≤ T by omega)
  have HG3 := Lib.hid (show T < 4611686018427387904 by omega)
  have HL3 := Lib.hid (show ((T - S : Nat) : Int) = ((T : Int) - (S : Int)) by omega)
  have t3 : ((l : Int) < (a : Int)) = True := by simp; omega
  have t4 : ((a : Int) ≤ (l : Int)) = False := by simp; omega
  have t1 : ((a : Int) < 0) = False := by simp
  have t2 : (0 ≤ (a : Int)) = True := by simp
  have w1 : (m : Int) - (l : Int) = (S : Int) := by omega
  have w2 : IntKind.u64.wrap (S : Int) = (S : Int) := by rw [IntKind.wrap_u64]; omega
  have w3 : IntKind.u64.wrap ((S : Int) + (m : Int)) = (S : Int) + (m : Int) := by rw [IntKind.wrap_u64]; omega
  have w4 : IntKind.u64.wrap (m : Int) = (m : Int) := by rw [IntKind.wrap_u64]; omega
  have t5 : ((S : Int) + (m : Int) < (T : Int)) = False := by simp; omega
  have t6 : ((T : Int) ≤ (m : Int)) = False := by simp; omega
  have w5 : IntKind.u64.wrap ((T : Int) - (S : Int)) = (T : Int) - (S : Int) := by rw [IntKind.wrap_u64]; omega
  have HH := Lib.hid (show S = S by omega)
  clear hm hkm hl hT hSm ht ht2 hn hn2
  go_enter Try.func5, Try.ntmps5
  go_wp2_with fail
  refine (newSp_ok m HM1.out HM2.out _).mono ?_
  rintro e wx1 ⟨bs, rfl, hb, h, hs⟩
  have HB_bs := Lib.hid (show w.heap.size ≤ bs from hb)
  have H_bs := Lib.hid h
  have HS := Lib.hid hs
  clear h hb hs
  go_wp2_with fail
  refine (newGv_ok m HM1.out HM2.out _).mono ?_
  rintro e wx2 ⟨bg, rfl, hb, h, hs⟩
  have HN_bs_bg := Lib.hid (show bs ≠ bg by have := heap_lt H_bs.out; omega)
  have HB_bg := Lib.hid (show w.heap.size ≤ bg from Nat.le_trans HS.out.size hb)
  replace H_bs := Lib.hid (show SpAt wx2 bs m m 0 from obj_step H_bs.out hs (by simp))
  have H_bg := Lib.hid h
  replace HS := Lib.hid (HS.out.trans hs)
  clear h hb hs
  go_wp2_with fail
  refine (spend_is bs m m 0 S (S : Int) 0 HK1.out HM1.out (by omega) (by have := HM2.out; omega) (amt_ok HK2.out) (by rw [paid_ok HK2.out]; have := HH.out; omega) _ H_bs.out).mono ?_
  rintro e wx3 ⟨rfl, h, hs⟩
  replace H_bs := Lib.hid h
  replace H_bg := Lib.hid (show GvAt wx3 bg m m 0 0 from obj_step H_bg.out hs (by simp; exact HN_bs_bg.out.symm))
  replace HS := Lib.hid (two_of (bg := 0) HS.out HB_bs.out hs)
  clear h hs
  go_wp2_with fail
  refine (take_is bg m m 0 0 S (S : Int) 0 HK1.out HM1.out (by omega) (by have := HM2.out; omega) (amt_ok HK2.out) (by rw [paid_ok HK2.out]; have := HH.out; omega) _ H_bg.out).mono ?_
  rintro e wx4 ⟨rfl, h, hs⟩
  replace H_bg := Lib.hid h
  replace H_bs := Lib.hid (show SpAt wx4 bs m m S from obj_step H_bs.out hs (by simp; exact HN_bs_bg.out))
  replace HS := Lib.hid (two_of (bg := 0) HS.out HB_bg.out hs)
  clear h hs
  go_wp2_with fail
  refine (left_is bs m m S (l : Int) HM1.out HK.out (by have := HM2.out; omega) HL.out _ H_bs.out).mono ?_
  rintro e wx5 ⟨rfl, h, hs⟩
  replace H_bs := Lib.hid h
  replace H_bg := Lib.hid (show GvAt wx5 bg m m S 0 from obj_step H_bg.out hs (by simp; exact HN_bs_bg.out.symm))
  replace HS := Lib.hid (two_of (bg := 0) HS.out HB_bs.out hs)
  clear h hs
  go_wp2_with fail
  refine (held_is bg m m S 0 (S : Int) HM1.out (by omega) (by have := HK.out; have := HM2.out; omega) (by omega) _ H_bg.out).mono ?_
  rintro e wx6 ⟨rfl, h, hs⟩
  replace H_bg := Lib.hid h
  replace H_bs := Lib.hid (show SpAt wx6 bs m m S from obj_step H_bs.out hs (by simp; exact HN_bs_bg.out))
  replace HS := Lib.hid (two_of (bg := 0) HS.out HB_bg.out hs)
  clear h hs
  go_wp2_with fail
  refine (spend_is bs m m S S (a : Int) 8 HN.out HM1.out HK.out (by have := HM2.out; omega) HA8.out HP8.out _ H_bs.out).mono ?_
  rintro e wx7 ⟨rfl, h, hs⟩
  replace H_bs := Lib.hid h
  replace H_bg := Lib.hid (show GvAt wx7 bg m m S 0 from obj_step H_bg.out hs (by simp; exact HN_bs_bg.out.symm))
  replace HS := Lib.hid (two_of (bg := 0) HS.out HB_bs.out hs)
  clear h hs
  go_wp2_with fail
  refine (take_is bg m m S 0 S (a : Int) 7 HN.out HM1.out HK.out (by have := HM2.out; omega) HA7.out HP8.out _ H_bg.out).mono ?_
  rintro e wx8 ⟨rfl, h, hs⟩
  replace H_bg := Lib.hid h
  replace H_bs := Lib.hid (show SpAt wx8 bs m m S from obj_step H_bs.out hs (by simp; exact HN_bs_bg.out))
  replace HS := Lib.hid (two_of (bg := 0) HS.out HB_bg.out hs)
  clear h hs
  go_wp2_with fail
  refine (left_is bs m m S (l : Int) HM1.out HK.out (by have := HM2.out; omega) HL2.out _ H_bs.out).mono ?_
  rintro e wx9 ⟨rfl, h, hs⟩
  replace H_bs := Lib.hid h
  replace H_bg := Lib.hid (show GvAt wx9 bg m m S 0 from obj_step H_bg.out hs (by simp; exact HN_bs_bg.out.symm))
  replace HS := Lib.hid (two_of (bg := 0) HS.out HB_bs.out hs)
  clear h hs
  go_wp2_with fail
  refine (held_is bg m m S 0 (S : Int) HM1.out (by omega) (by have := HK.out; have := HM2.out; omega) HH2.out _ H_bg.out).mono ?_
  rintro e wx10 ⟨rfl, h, hs⟩
  replace H_bg := Lib.hid h
  replace H_bs := Lib.hid (show SpAt wx10 bs m m S from obj_step H_bs.out hs (by simp; exact HN_bs_bg.out))
  replace HS := Lib.hid (two_of (bg := 0) HS.out HB_bg.out hs)
  clear h hs
  go_wp2_with fail
  refine (left_is bs m m S (l : Int) HM1.out HK.out (by have := HM2.out; omega) HL2.out _ H_bs.out).mono ?_
  rintro e wx11 ⟨rfl, h, hs⟩
  replace H_bs := Lib.hid h
  replace H_bg := Lib.hid (show GvAt wx11 bg m m S 0 from obj_step H_bg.out hs (by simp; exact HN_bs_bg.out.symm))
  replace HS := Lib.hid (two_of (bg := 0) HS.out HB_bs.out hs)
  clear h hs
  clear H_bg
  go_wp2_with fail
  refine (granted_is bs m m S T 0 _ T rfl HM1.out (by have := HM2.out; omega) HK.out (by have := HM2.out; omega) HT.out HE.out HG.out _ H_bs.out).mono ?_
  rintro e wx12 ⟨rfl, h, hs⟩
  replace H_bs := Lib.hid h
  replace HS := Lib.hid (two_of (bg := 0) HS.out HB_bs.out hs)
  clear h hs
  go_wp2_with fail
  refine (left_is bs m T S ((T : Int) - (S : Int)) HM1.out HP3.out HG3.out HL3.out _ H_bs.out).mono ?_
  rintro e wx13 ⟨rfl, h, hs⟩
  replace H_bs := Lib.hid h
  replace HS := Lib.hid (two_of (bg := 0) HS.out HB_bs.out hs)
  clear h hs
  go_wp2_with fail
  refine (wakes_any _).mono ?_
  rintro e wx14 ⟨rfl, hs⟩
  replace H_bs := Lib.hid (show SpAt wx14 bs m T S from obj_step H_bs.out hs (by simp))
  replace HS := Lib.hid (HS.out.trans hs)
  clear hs
  go_wp2_with fail
  go_ret
  exact ⟨rfl, HS.out⟩

set_option maxRecDepth 100000 in
set_option maxHeartbeats 4000000 in
theorem refused_lt_ok_err (L S m l : Nat) (a : Nat) (p2 : Nat) (T : Nat) (hm : m = L + 1) (hL : L < 256) (hS : S < 256) (hkm : S ≤ m) (hl : l = m - S) (hT : T < 18446744073709551616) (hSm : S ≤ m) (hn : a ≤ l) (hp2 : p2 = S + a) (ht : p2 + m < T) (w : World) : Calls Try.prog 5 #[.int .u8 (L : Int), .int .u8 (S : Int), .int .i64 (a : Int), .int .u64 (T : Int)] w fun e w' => e = .returned (.bool true) ∧ Step [] w w' := by
  have hm2 : m ≤ 256 := by omega
  have HM1 := Lib.hid (show 1 ≤ m by omega)
  have HM2 := Lib.hid (show m ≤ 8192 by omega)
  have em : (1 : Int) + (L : Int) = (m : Int) := by omega
  have emin : ((m : Int) < (S : Int)) = False := by simp; omega
  have HK1 := Lib.hid (show (S : Int) < 9223372036854775808 by omega)
  have HK2 := Lib.hid (show S ≤ m - 0 by omega)
  have HK := Lib.hid hkm
  have HL := Lib.hid (show ((m - S : Nat) : Int) = (l : Int) by omega)
  have HN := Lib.hid (show (a : Int) < 9223372036854775808 by omega)
  have HA8 := Lib.hid (show amt 8 (a : Int) (m - S) = 0 from amt_ok (by omega))
  have HA7 := Lib.hid (show amt 7 (a : Int) (m - S) = 0 from amt_ok (by omega))
  have HP8 := Lib.hid (show paid (a : Int) S (m - S) = p2 from (paid_ok (by omega)).trans (by omega))
  have HL2 := Lib.hid (show ((m - p2 : Nat) : Int) = ((l : Int) - (a : Int)) by omega)
  have HH2 := Lib.hid (show ((p2 - 0 : Nat) : Int) = ((S : Int) + (a : Int)) by omega)
  have HPK := Lib.hid (show p2 ≤ m by omega)
  have HT := Lib.hid hT
  have HE := Lib.hid (show lateE m p2 T = 24 from if_pos ht)
  have HG := Lib.hid (show lateG m m p2 T = m from if_pos ht)
  have HP3 := Lib.hid (show p2 ≤ m by omega)
  have HG3 := Lib.hid (show m < 4611686018427387904 by omega)
  have HL3 := Lib.hid (show ((m - p2 : Nat) : Int) = ((l : Int) - (a : Int)) by omega)
  have t3 : ((l : Int) < (a : Int)) = False := by simp; omega
  have t4 : ((a : Int) ≤ (l : Int)) = True := by simp; omega
  have t1 : ((a : Int) < 0) = False := by simp
  have t2 : (0 ≤ (a : Int)) = True := by simp
  have w1 : (m : Int) - ((l : Int) - (a : Int)) = ((S : Int) + (a : Int)) := by omega
  have w2 : IntKind.u64.wrap ((S : Int) + (a : Int)) = ((S : Int) + (a : Int)) := by rw [IntKind.wrap_u64]; omega
  have w3 : IntKind.u64.wrap (((S : Int) + (a : Int)) + (m : Int)) = ((S : Int) + (a : Int)) + (m : Int) := by rw [IntKind.wrap_u64]; omega
  have w4 : IntKind.u64.wrap (m : Int) = (m : Int) := by rw [IntKind.wrap_u64]; omega
  have t5 : (((S : Int) + (a : Int)) + (m : Int) < (T : Int)) = True := by simp; omega
  have t6 : ((T : Int) ≤ (m : Int)) = False := by simp; omega
  have w6 : IntKind.i64.wrap ((S : Int) + (a : Int)) = (S : Int) + (a : Int) := by rw [IntKind.wrap_i64]; omega
  have w7 : IntKind.i64.wrap ((l : Int) - (a : Int)) = (l : Int) - (a : Int) := by rw [IntKind.wrap_i64]; omega
  have HH := Lib.hid (show S = S by omega)
  clear hm hkm hl hT hSm ht hn hp2
  go_enter Try.func5, Try.ntmps5
  go_wp2_with fail
  refine (newSp_ok m HM1.out HM2.out _).mono ?_
  rintro e wx1 ⟨bs, rfl, hb, h, hs⟩
  have HB_bs := Lib.hid (show w.heap.size ≤ bs from hb)
  have H_bs := Lib.hid h
  have HS := Lib.hid hs
  clear h hb hs
  go_wp2_with fail
  refine (newGv_ok m HM1.out HM2.out _).mono ?_
  rintro e wx2 ⟨bg, rfl, hb, h, hs⟩
  have HN_bs_bg := Lib.hid (show bs ≠ bg by have := heap_lt H_bs.out; omega)
  have HB_bg := Lib.hid (show w.heap.size ≤ bg from Nat.le_trans HS.out.size hb)
  replace H_bs := Lib.hid (show SpAt wx2 bs m m 0 from obj_step H_bs.out hs (by simp))
  have H_bg := Lib.hid h
  replace HS := Lib.hid (HS.out.trans hs)
  clear h hb hs
  go_wp2_with fail
  refine (spend_is bs m m 0 S (S : Int) 0 HK1.out HM1.out (by omega) (by have := HM2.out; omega) (amt_ok HK2.out) (by rw [paid_ok HK2.out]; have := HH.out; omega) _ H_bs.out).mono ?_
  rintro e wx3 ⟨rfl, h, hs⟩
  replace H_bs := Lib.hid h
  replace H_bg := Lib.hid (show GvAt wx3 bg m m 0 0 from obj_step H_bg.out hs (by simp; exact HN_bs_bg.out.symm))
  replace HS := Lib.hid (two_of (bg := 0) HS.out HB_bs.out hs)
  clear h hs
  go_wp2_with fail
  refine (take_is bg m m 0 0 S (S : Int) 0 HK1.out HM1.out (by omega) (by have := HM2.out; omega) (amt_ok HK2.out) (by rw [paid_ok HK2.out]; have := HH.out; omega) _ H_bg.out).mono ?_
  rintro e wx4 ⟨rfl, h, hs⟩
  replace H_bg := Lib.hid h
  replace H_bs := Lib.hid (show SpAt wx4 bs m m S from obj_step H_bs.out hs (by simp; exact HN_bs_bg.out))
  replace HS := Lib.hid (two_of (bg := 0) HS.out HB_bg.out hs)
  clear h hs
  go_wp2_with fail
  refine (left_is bs m m S (l : Int) HM1.out HK.out (by have := HM2.out; omega) HL.out _ H_bs.out).mono ?_
  rintro e wx5 ⟨rfl, h, hs⟩
  replace H_bs := Lib.hid h
  replace H_bg := Lib.hid (show GvAt wx5 bg m m S 0 from obj_step H_bg.out hs (by simp; exact HN_bs_bg.out.symm))
  replace HS := Lib.hid (two_of (bg := 0) HS.out HB_bs.out hs)
  clear h hs
  go_wp2_with fail
  refine (held_is bg m m S 0 (S : Int) HM1.out (by omega) (by have := HK.out; have := HM2.out; omega) (by omega) _ H_bg.out).mono ?_
  rintro e wx6 ⟨rfl, h, hs⟩
  replace H_bg := Lib.hid h
  replace H_bs := Lib.hid (show SpAt wx6 bs m m S from obj_step H_bs.out hs (by simp; exact HN_bs_bg.out))
  replace HS := Lib.hid (two_of (bg := 0) HS.out HB_bg.out hs)
  clear h hs
  go_wp2_with fail
  refine (spend_is bs m m S p2 (a : Int) 0 HN.out HM1.out HK.out (by have := HM2.out; omega) HA8.out HP8.out _ H_bs.out).mono ?_
  rintro e wx7 ⟨rfl, h, hs⟩
  replace H_bs := Lib.hid h
  replace H_bg := Lib.hid (show GvAt wx7 bg m m S 0 from obj_step H_bg.out hs (by simp; exact HN_bs_bg.out.symm))
  replace HS := Lib.hid (two_of (bg := 0) HS.out HB_bs.out hs)
  clear h hs
  go_wp2_with fail
  refine (take_is bg m m S 0 p2 (a : Int) 0 HN.out HM1.out HK.out (by have := HM2.out; omega) HA7.out HP8.out _ H_bg.out).mono ?_
  rintro e wx8 ⟨rfl, h, hs⟩
  replace H_bg := Lib.hid h
  replace H_bs := Lib.hid (show SpAt wx8 bs m m p2 from obj_step H_bs.out hs (by simp; exact HN_bs_bg.out))
  replace HS := Lib.hid (two_of (bg := 0) HS.out HB_bg.out hs)
  clear h hs
  go_wp2_with fail
  refine (left_is bs m m p2 ((l : Int) - (a : Int)) HM1.out HPK.out (by have := HM2.out; omega) HL2.out _ H_bs.out).mono ?_
  rintro e wx9 ⟨rfl, h, hs⟩
  replace H_bs := Lib.hid h
  replace H_bg := Lib.hid (show GvAt wx9 bg m m p2 0 from obj_step H_bg.out hs (by simp; exact HN_bs_bg.out.symm))
  replace HS := Lib.hid (two_of (bg := 0) HS.out HB_bs.out hs)
  clear h hs
  go_wp2_with fail
  refine (held_is bg m m p2 0 ((S : Int) + (a : Int)) HM1.out (by omega) (by have := HPK.out; have := HM2.out; omega) HH2.out _ H_bg.out).mono ?_
  rintro e wx10 ⟨rfl, h, hs⟩
  replace H_bg := Lib.hid h
  replace H_bs := Lib.hid (show SpAt wx10 bs m m p2 from obj_step H_bs.out hs (by simp; exact HN_bs_bg.out))
  replace HS := Lib.hid (two_of (bg := 0) HS.out HB_bg.out hs)
  clear h hs
  go_wp2_with fail
  refine (left_is bs m m p2 ((l : Int) - (a : Int)) HM1.out HPK.out (by have := HM2.out; omega) HL2.out _ H_bs.out).mono ?_
  rintro e wx11 ⟨rfl, h, hs⟩
  replace H_bs := Lib.hid h
  replace H_bg := Lib.hid (show GvAt wx11 bg m m p2 0 from obj_step H_bg.out hs (by simp; exact HN_bs_bg.out.symm))
  replace HS := Lib.hid (two_of (bg := 0) HS.out HB_bs.out hs)
  clear h hs
  clear H_bg
  go_wp2_with fail
  refine (granted_is bs m m p2 m 24 _ T rfl HM1.out (by have := HM2.out; omega) HPK.out (by have := HM2.out; omega) HT.out HE.out HG.out _ H_bs.out).mono ?_
  rintro e wx12 ⟨rfl, h, hs⟩
  replace H_bs := Lib.hid h
  replace HS := Lib.hid (two_of (bg := 0) HS.out HB_bs.out hs)
  clear h hs
  go_wp2_with fail
  refine (left_is bs m m p2 ((l : Int) - (a : Int)) HM1.out HP3.out HG3.out HL3.out _ H_bs.out).mono ?_
  rintro e wx13 ⟨rfl, h, hs⟩
  replace H_bs := Lib.hid h
  replace HS := Lib.hid (two_of (bg := 0) HS.out HB_bs.out hs)
  clear h hs
  go_wp2_with fail
  refine (wakes_any _).mono ?_
  rintro e wx14 ⟨rfl, hs⟩
  replace H_bs := Lib.hid (show SpAt wx14 bs m m p2 from obj_step H_bs.out hs (by simp))
  replace HS := Lib.hid (HS.out.trans hs)
  clear hs
  go_wp2_with fail
  go_ret
  exact ⟨rfl, HS.out⟩

set_option maxRecDepth 100000 in
set_option maxHeartbeats 4000000 in
theorem refused_lt_ok_old (L S m l : Nat) (a : Nat) (p2 : Nat) (T : Nat) (hm : m = L + 1) (hL : L < 256) (hS : S < 256) (hkm : S ≤ m) (hl : l = m - S) (hT : T < 18446744073709551616) (hSm : S ≤ m) (hn : a ≤ l) (hp2 : p2 = S + a) (ht : T ≤ m) (w : World) : Calls Try.prog 5 #[.int .u8 (L : Int), .int .u8 (S : Int), .int .i64 (a : Int), .int .u64 (T : Int)] w fun e w' => e = .returned (.bool true) ∧ Step [] w w' := by
  have hm2 : m ≤ 256 := by omega
  have HM1 := Lib.hid (show 1 ≤ m by omega)
  have HM2 := Lib.hid (show m ≤ 8192 by omega)
  have em : (1 : Int) + (L : Int) = (m : Int) := by omega
  have emin : ((m : Int) < (S : Int)) = False := by simp; omega
  have HK1 := Lib.hid (show (S : Int) < 9223372036854775808 by omega)
  have HK2 := Lib.hid (show S ≤ m - 0 by omega)
  have HK := Lib.hid hkm
  have HL := Lib.hid (show ((m - S : Nat) : Int) = (l : Int) by omega)
  have HN := Lib.hid (show (a : Int) < 9223372036854775808 by omega)
  have HA8 := Lib.hid (show amt 8 (a : Int) (m - S) = 0 from amt_ok (by omega))
  have HA7 := Lib.hid (show amt 7 (a : Int) (m - S) = 0 from amt_ok (by omega))
  have HP8 := Lib.hid (show paid (a : Int) S (m - S) = p2 from (paid_ok (by omega)).trans (by omega))
  have HL2 := Lib.hid (show ((m - p2 : Nat) : Int) = ((l : Int) - (a : Int)) by omega)
  have HH2 := Lib.hid (show ((p2 - 0 : Nat) : Int) = ((S : Int) + (a : Int)) by omega)
  have HPK := Lib.hid (show p2 ≤ m by omega)
  have HT := Lib.hid hT
  have HE := Lib.hid (show lateE m p2 T = 0 from if_neg (by omega))
  have HG := Lib.hid (show lateG m m p2 T = m from (if_neg (by omega)).trans (by omega))
  have HP3 := Lib.hid (show p2 ≤ m by omega)
  have HG3 := Lib.hid (show m < 4611686018427387904 by omega)
  have HL3 := Lib.hid (show ((m - p2 : Nat) : Int) = ((l : Int) - (a : Int)) by omega)
  have t3 : ((l : Int) < (a : Int)) = False := by simp; omega
  have t4 : ((a : Int) ≤ (l : Int)) = True := by simp; omega
  have t1 : ((a : Int) < 0) = False := by simp
  have t2 : (0 ≤ (a : Int)) = True := by simp
  have w1 : (m : Int) - ((l : Int) - (a : Int)) = ((S : Int) + (a : Int)) := by omega
  have w2 : IntKind.u64.wrap ((S : Int) + (a : Int)) = ((S : Int) + (a : Int)) := by rw [IntKind.wrap_u64]; omega
  have w3 : IntKind.u64.wrap (((S : Int) + (a : Int)) + (m : Int)) = ((S : Int) + (a : Int)) + (m : Int) := by rw [IntKind.wrap_u64]; omega
  have w4 : IntKind.u64.wrap (m : Int) = (m : Int) := by rw [IntKind.wrap_u64]; omega
  have t5 : (((S : Int) + (a : Int)) + (m : Int) < (T : Int)) = False := by simp; omega
  have t6 : ((T : Int) ≤ (m : Int)) = True := by simp; omega
  have w6 : IntKind.i64.wrap ((S : Int) + (a : Int)) = (S : Int) + (a : Int) := by rw [IntKind.wrap_i64]; omega
  have w7 : IntKind.i64.wrap ((l : Int) - (a : Int)) = (l : Int) - (a : Int) := by rw [IntKind.wrap_i64]; omega
  have HH := Lib.hid (show S = S by omega)
  clear hm hkm hl hT hSm ht hn hp2
  go_enter Try.func5, Try.ntmps5
  go_wp2_with fail
  refine (newSp_ok m HM1.out HM2.out _).mono ?_
  rintro e wx1 ⟨bs, rfl, hb, h, hs⟩
  have HB_bs := Lib.hid (show w.heap.size ≤ bs from hb)
  have H_bs := Lib.hid h
  have HS := Lib.hid hs
  clear h hb hs
  go_wp2_with fail
  refine (newGv_ok m HM1.out HM2.out _).mono ?_
  rintro e wx2 ⟨bg, rfl, hb, h, hs⟩
  have HN_bs_bg := Lib.hid (show bs ≠ bg by have := heap_lt H_bs.out; omega)
  have HB_bg := Lib.hid (show w.heap.size ≤ bg from Nat.le_trans HS.out.size hb)
  replace H_bs := Lib.hid (show SpAt wx2 bs m m 0 from obj_step H_bs.out hs (by simp))
  have H_bg := Lib.hid h
  replace HS := Lib.hid (HS.out.trans hs)
  clear h hb hs
  go_wp2_with fail
  refine (spend_is bs m m 0 S (S : Int) 0 HK1.out HM1.out (by omega) (by have := HM2.out; omega) (amt_ok HK2.out) (by rw [paid_ok HK2.out]; have := HH.out; omega) _ H_bs.out).mono ?_
  rintro e wx3 ⟨rfl, h, hs⟩
  replace H_bs := Lib.hid h
  replace H_bg := Lib.hid (show GvAt wx3 bg m m 0 0 from obj_step H_bg.out hs (by simp; exact HN_bs_bg.out.symm))
  replace HS := Lib.hid (two_of (bg := 0) HS.out HB_bs.out hs)
  clear h hs
  go_wp2_with fail
  refine (take_is bg m m 0 0 S (S : Int) 0 HK1.out HM1.out (by omega) (by have := HM2.out; omega) (amt_ok HK2.out) (by rw [paid_ok HK2.out]; have := HH.out; omega) _ H_bg.out).mono ?_
  rintro e wx4 ⟨rfl, h, hs⟩
  replace H_bg := Lib.hid h
  replace H_bs := Lib.hid (show SpAt wx4 bs m m S from obj_step H_bs.out hs (by simp; exact HN_bs_bg.out))
  replace HS := Lib.hid (two_of (bg := 0) HS.out HB_bg.out hs)
  clear h hs
  go_wp2_with fail
  refine (left_is bs m m S (l : Int) HM1.out HK.out (by have := HM2.out; omega) HL.out _ H_bs.out).mono ?_
  rintro e wx5 ⟨rfl, h, hs⟩
  replace H_bs := Lib.hid h
  replace H_bg := Lib.hid (show GvAt wx5 bg m m S 0 from obj_step H_bg.out hs (by simp; exact HN_bs_bg.out.symm))
  replace HS := Lib.hid (two_of (bg := 0) HS.out HB_bs.out hs)
  clear h hs
  go_wp2_with fail
  refine (held_is bg m m S 0 (S : Int) HM1.out (by omega) (by have := HK.out; have := HM2.out; omega) (by omega) _ H_bg.out).mono ?_
  rintro e wx6 ⟨rfl, h, hs⟩
  replace H_bg := Lib.hid h
  replace H_bs := Lib.hid (show SpAt wx6 bs m m S from obj_step H_bs.out hs (by simp; exact HN_bs_bg.out))
  replace HS := Lib.hid (two_of (bg := 0) HS.out HB_bg.out hs)
  clear h hs
  go_wp2_with fail
  refine (spend_is bs m m S p2 (a : Int) 0 HN.out HM1.out HK.out (by have := HM2.out; omega) HA8.out HP8.out _ H_bs.out).mono ?_
  rintro e wx7 ⟨rfl, h, hs⟩
  replace H_bs := Lib.hid h
  replace H_bg := Lib.hid (show GvAt wx7 bg m m S 0 from obj_step H_bg.out hs (by simp; exact HN_bs_bg.out.symm))
  replace HS := Lib.hid (two_of (bg := 0) HS.out HB_bs.out hs)
  clear h hs
  go_wp2_with fail
  refine (take_is bg m m S 0 p2 (a : Int) 0 HN.out HM1.out HK.out (by have := HM2.out; omega) HA7.out HP8.out _ H_bg.out).mono ?_
  rintro e wx8 ⟨rfl, h, hs⟩
  replace H_bg := Lib.hid h
  replace H_bs := Lib.hid (show SpAt wx8 bs m m p2 from obj_step H_bs.out hs (by simp; exact HN_bs_bg.out))
  replace HS := Lib.hid (two_of (bg := 0) HS.out HB_bg.out hs)
  clear h hs
  go_wp2_with fail
  refine (left_is bs m m p2 ((l : Int) - (a : Int)) HM1.out HPK.out (by have := HM2.out; omega) HL2.out _ H_bs.out).mono ?_
  rintro e wx9 ⟨rfl, h, hs⟩
  replace H_bs := Lib.hid h
  replace H_bg := Lib.hid (show GvAt wx9 bg m m p2 0 from obj_step H_bg.out hs (by simp; exact HN_bs_bg.out.symm))
  replace HS := Lib.hid (two_of (bg := 0) HS.out HB_bs.out hs)
  clear h hs
  go_wp2_with fail
  refine (held_is bg m m p2 0 ((S : Int) + (a : Int)) HM1.out (by omega) (by have := HPK.out; have := HM2.out; omega) HH2.out _ H_bg.out).mono ?_
  rintro e wx10 ⟨rfl, h, hs⟩
  replace H_bg := Lib.hid h
  replace H_bs := Lib.hid (show SpAt wx10 bs m m p2 from obj_step H_bs.out hs (by simp; exact HN_bs_bg.out))
  replace HS := Lib.hid (two_of (bg := 0) HS.out HB_bg.out hs)
  clear h hs
  go_wp2_with fail
  refine (left_is bs m m p2 ((l : Int) - (a : Int)) HM1.out HPK.out (by have := HM2.out; omega) HL2.out _ H_bs.out).mono ?_
  rintro e wx11 ⟨rfl, h, hs⟩
  replace H_bs := Lib.hid h
  replace H_bg := Lib.hid (show GvAt wx11 bg m m p2 0 from obj_step H_bg.out hs (by simp; exact HN_bs_bg.out.symm))
  replace HS := Lib.hid (two_of (bg := 0) HS.out HB_bs.out hs)
  clear h hs
  clear H_bg
  go_wp2_with fail
  refine (granted_is bs m m p2 m 0 _ T rfl HM1.out (by have := HM2.out; omega) HPK.out (by have := HM2.out; omega) HT.out HE.out HG.out _ H_bs.out).mono ?_
  rintro e wx12 ⟨rfl, h, hs⟩
  replace H_bs := Lib.hid h
  replace HS := Lib.hid (two_of (bg := 0) HS.out HB_bs.out hs)
  clear h hs
  go_wp2_with fail
  refine (left_is bs m m p2 ((l : Int) - (a : Int)) HM1.out HP3.out HG3.out HL3.out _ H_bs.out).mono ?_
  rintro e wx13 ⟨rfl, h, hs⟩
  replace H_bs := Lib.hid h
  replace HS := Lib.hid (two_of (bg := 0) HS.out HB_bs.out hs)
  clear h hs
  go_wp2_with fail
  refine (wakes_any _).mono ?_
  rintro e wx14 ⟨rfl, hs⟩
  replace H_bs := Lib.hid (show SpAt wx14 bs m m p2 from obj_step H_bs.out hs (by simp))
  replace HS := Lib.hid (HS.out.trans hs)
  clear hs
  go_wp2_with fail
  go_ret
  exact ⟨rfl, HS.out⟩

set_option maxRecDepth 100000 in
set_option maxHeartbeats 4000000 in
theorem refused_lt_ok_new (L S m l : Nat) (a : Nat) (p2 : Nat) (T : Nat) (hm : m = L + 1) (hL : L < 256) (hS : S < 256) (hkm : S ≤ m) (hl : l = m - S) (hT : T < 18446744073709551616) (hSm : S ≤ m) (hn : a ≤ l) (hp2 : p2 = S + a) (ht : m < T) (ht2 : T ≤ p2 + m) (w : World) : Calls Try.prog 5 #[.int .u8 (L : Int), .int .u8 (S : Int), .int .i64 (a : Int), .int .u64 (T : Int)] w fun e w' => e = .returned (.bool true) ∧ Step [] w w' := by
  have hm2 : m ≤ 256 := by omega
  have HM1 := Lib.hid (show 1 ≤ m by omega)
  have HM2 := Lib.hid (show m ≤ 8192 by omega)
  have em : (1 : Int) + (L : Int) = (m : Int) := by omega
  have emin : ((m : Int) < (S : Int)) = False := by simp; omega
  have HK1 := Lib.hid (show (S : Int) < 9223372036854775808 by omega)
  have HK2 := Lib.hid (show S ≤ m - 0 by omega)
  have HK := Lib.hid hkm
  have HL := Lib.hid (show ((m - S : Nat) : Int) = (l : Int) by omega)
  have HN := Lib.hid (show (a : Int) < 9223372036854775808 by omega)
  have HA8 := Lib.hid (show amt 8 (a : Int) (m - S) = 0 from amt_ok (by omega))
  have HA7 := Lib.hid (show amt 7 (a : Int) (m - S) = 0 from amt_ok (by omega))
  have HP8 := Lib.hid (show paid (a : Int) S (m - S) = p2 from (paid_ok (by omega)).trans (by omega))
  have HL2 := Lib.hid (show ((m - p2 : Nat) : Int) = ((l : Int) - (a : Int)) by omega)
  have HH2 := Lib.hid (show ((p2 - 0 : Nat) : Int) = ((S : Int) + (a : Int)) by omega)
  have HPK := Lib.hid (show p2 ≤ m by omega)
  have HT := Lib.hid hT
  have HE := Lib.hid (show lateE m p2 T = 0 from if_neg (by omega))
  have HG := Lib.hid (show lateG m m p2 T = T from (if_neg (by omega)).trans (by omega))
  have HP3 := Lib.hid (show p2 ≤ T by omega)
  have HG3 := Lib.hid (show T < 4611686018427387904 by omega)
  have HL3 := Lib.hid (show ((T - p2 : Nat) : Int) = ((T : Int) - ((S : Int) + (a : Int))) by omega)
  have t3 : ((l : Int) < (a : Int)) = False := by simp; omega
  have t4 : ((a : Int) ≤ (l : Int)) = True := by simp; omega
  have t1 : ((a : Int) < 0) = False := by simp
  have t2 : (0 ≤ (a : Int)) = True := by simp
  have w1 : (m : Int) - ((l : Int) - (a : Int)) = ((S : Int) + (a : Int)) := by omega
  have w2 : IntKind.u64.wrap ((S : Int) + (a : Int)) = ((S : Int) + (a : Int)) := by rw [IntKind.wrap_u64]; omega
  have w3 : IntKind.u64.wrap (((S : Int) + (a : Int)) + (m : Int)) = ((S : Int) + (a : Int)) + (m : Int) := by rw [IntKind.wrap_u64]; omega
  have w4 : IntKind.u64.wrap (m : Int) = (m : Int) := by rw [IntKind.wrap_u64]; omega
  have t5 : (((S : Int) + (a : Int)) + (m : Int) < (T : Int)) = False := by simp; omega
  have t6 : ((T : Int) ≤ (m : Int)) = False := by simp; omega
  have w5 : IntKind.u64.wrap ((T : Int) - ((S : Int) + (a : Int))) = (T : Int) - ((S : Int) + (a : Int)) := by rw [IntKind.wrap_u64]; omega
  have w6 : IntKind.i64.wrap ((S : Int) + (a : Int)) = (S : Int) + (a : Int) := by rw [IntKind.wrap_i64]; omega
  have w7 : IntKind.i64.wrap ((l : Int) - (a : Int)) = (l : Int) - (a : Int) := by rw [IntKind.wrap_i64]; omega
  have HH := Lib.hid (show S = S by omega)
  clear hm hkm hl hT hSm ht ht2 hn hp2
  go_enter Try.func5, Try.ntmps5
  go_wp2_with fail
  refine (newSp_ok m HM1.out HM2.out _).mono ?_
  rintro e wx1 ⟨bs, rfl, hb, h, hs⟩
  have HB_bs := Lib.hid (show w.heap.size ≤ bs from hb)
  have H_bs := Lib.hid h
  have HS := Lib.hid hs
  clear h hb hs
  go_wp2_with fail
  refine (newGv_ok m HM1.out HM2.out _).mono ?_
  rintro e wx2 ⟨bg, rfl, hb, h, hs⟩
  have HN_bs_bg := Lib.hid (show bs ≠ bg by have := heap_lt H_bs.out; omega)
  have HB_bg := Lib.hid (show w.heap.size ≤ bg from Nat.le_trans HS.out.size hb)
  replace H_bs := Lib.hid (show SpAt wx2 bs m m 0 from obj_step H_bs.out hs (by simp))
  have H_bg := Lib.hid h
  replace HS := Lib.hid (HS.out.trans hs)
  clear h hb hs
  go_wp2_with fail
  refine (spend_is bs m m 0 S (S : Int) 0 HK1.out HM1.out (by omega) (by have := HM2.out; omega) (amt_ok HK2.out) (by rw [paid_ok HK2.out]; have := HH.out; omega) _ H_bs.out).mono ?_
  rintro e wx3 ⟨rfl, h, hs⟩
  replace H_bs := Lib.hid h
  replace H_bg := Lib.hid (show GvAt wx3 bg m m 0 0 from obj_step H_bg.out hs (by simp; exact HN_bs_bg.out.symm))
  replace HS := Lib.hid (two_of (bg := 0) HS.out HB_bs.out hs)
  clear h hs
  go_wp2_with fail
  refine (take_is bg m m 0 0 S (S : Int) 0 HK1.out HM1.out (by omega) (by have := HM2.out; omega) (amt_ok HK2.out) (by rw [paid_ok HK2.out]; have := HH.out; omega) _ H_bg.out).mono ?_
  rintro e wx4 ⟨rfl, h, hs⟩
  replace H_bg := Lib.hid h
  replace H_bs := Lib.hid (show SpAt wx4 bs m m S from obj_step H_bs.out hs (by simp; exact HN_bs_bg.out))
  replace HS := Lib.hid (two_of (bg := 0) HS.out HB_bg.out hs)
  clear h hs
  go_wp2_with fail
  refine (left_is bs m m S (l : Int) HM1.out HK.out (by have := HM2.out; omega) HL.out _ H_bs.out).mono ?_
  rintro e wx5 ⟨rfl, h, hs⟩
  replace H_bs := Lib.hid h
  replace H_bg := Lib.hid (show GvAt wx5 bg m m S 0 from obj_step H_bg.out hs (by simp; exact HN_bs_bg.out.symm))
  replace HS := Lib.hid (two_of (bg := 0) HS.out HB_bs.out hs)
  clear h hs
  go_wp2_with fail
  refine (held_is bg m m S 0 (S : Int) HM1.out (by omega) (by have := HK.out; have := HM2.out; omega) (by omega) _ H_bg.out).mono ?_
  rintro e wx6 ⟨rfl, h, hs⟩
  replace H_bg := Lib.hid h
  replace H_bs := Lib.hid (show SpAt wx6 bs m m S from obj_step H_bs.out hs (by simp; exact HN_bs_bg.out))
  replace HS := Lib.hid (two_of (bg := 0) HS.out HB_bg.out hs)
  clear h hs
  go_wp2_with fail
  refine (spend_is bs m m S p2 (a : Int) 0 HN.out HM1.out HK.out (by have := HM2.out; omega) HA8.out HP8.out _ H_bs.out).mono ?_
  rintro e wx7 ⟨rfl, h, hs⟩
  replace H_bs := Lib.hid h
  replace H_bg := Lib.hid (show GvAt wx7 bg m m S 0 from obj_step H_bg.out hs (by simp; exact HN_bs_bg.out.symm))
  replace HS := Lib.hid (two_of (bg := 0) HS.out HB_bs.out hs)
  clear h hs
  go_wp2_with fail
  refine (take_is bg m m S 0 p2 (a : Int) 0 HN.out HM1.out HK.out (by have := HM2.out; omega) HA7.out HP8.out _ H_bg.out).mono ?_
  rintro e wx8 ⟨rfl, h, hs⟩
  replace H_bg := Lib.hid h
  replace H_bs := Lib.hid (show SpAt wx8 bs m m p2 from obj_step H_bs.out hs (by simp; exact HN_bs_bg.out))
  replace HS := Lib.hid (two_of (bg := 0) HS.out HB_bg.out hs)
  clear h hs
  go_wp2_with fail
  refine (left_is bs m m p2 ((l : Int) - (a : Int)) HM1.out HPK.out (by have := HM2.out; omega) HL2.out _ H_bs.out).mono ?_
  rintro e wx9 ⟨rfl, h, hs⟩
  replace H_bs := Lib.hid h
  replace H_bg := Lib.hid (show GvAt wx9 bg m m p2 0 from obj_step H_bg.out hs (by simp; exact HN_bs_bg.out.symm))
  replace HS := Lib.hid (two_of (bg := 0) HS.out HB_bs.out hs)
  clear h hs
  go_wp2_with fail
  refine (held_is bg m m p2 0 ((S : Int) + (a : Int)) HM1.out (by omega) (by have := HPK.out; have := HM2.out; omega) HH2.out _ H_bg.out).mono ?_
  rintro e wx10 ⟨rfl, h, hs⟩
  replace H_bg := Lib.hid h
  replace H_bs := Lib.hid (show SpAt wx10 bs m m p2 from obj_step H_bs.out hs (by simp; exact HN_bs_bg.out))
  replace HS := Lib.hid (two_of (bg := 0) HS.out HB_bg.out hs)
  clear h hs
  go_wp2_with fail
  refine (left_is bs m m p2 ((l : Int) - (a : Int)) HM1.out HPK.out (by have := HM2.out; omega) HL2.out _ H_bs.out).mono ?_
  rintro e wx11 ⟨rfl, h, hs⟩
  replace H_bs := Lib.hid h
  replace H_bg := Lib.hid (show GvAt wx11 bg m m p2 0 from obj_step H_bg.out hs (by simp; exact HN_bs_bg.out.symm))
  replace HS := Lib.hid (two_of (bg := 0) HS.out HB_bs.out hs)
  clear h hs
  clear H_bg
  go_wp2_with fail
  refine (granted_is bs m m p2 T 0 _ T rfl HM1.out (by have := HM2.out; omega) HPK.out (by have := HM2.out; omega) HT.out HE.out HG.out _ H_bs.out).mono ?_
  rintro e wx12 ⟨rfl, h, hs⟩
  replace H_bs := Lib.hid h
  replace HS := Lib.hid (two_of (bg := 0) HS.out HB_bs.out hs)
  clear h hs
  go_wp2_with fail
  refine (left_is bs m T p2 ((T : Int) - ((S : Int) + (a : Int))) HM1.out HP3.out HG3.out HL3.out _ H_bs.out).mono ?_
  rintro e wx13 ⟨rfl, h, hs⟩
  replace H_bs := Lib.hid h
  replace HS := Lib.hid (two_of (bg := 0) HS.out HB_bs.out hs)
  clear h hs
  go_wp2_with fail
  refine (wakes_any _).mono ?_
  rintro e wx14 ⟨rfl, hs⟩
  replace H_bs := Lib.hid (show SpAt wx14 bs m T p2 from obj_step H_bs.out hs (by simp))
  replace HS := Lib.hid (HS.out.trans hs)
  clear hs
  go_wp2_with fail
  go_ret
  exact ⟨rfl, HS.out⟩

set_option maxRecDepth 100000 in
set_option maxHeartbeats 4000000 in
theorem refused_ge_neg_err (L S m k l : Nat) (n : Int) (T : Nat) (hm : m = L + 1) (hL : L < 256) (hk : k = m) (hS : S < 256) (hkm : k ≤ m) (hl : l = m - k) (hT : T < 18446744073709551616) (hSm : m < S) (hn : n < 0) (ht : k + m < T) (w : World) : Calls Try.prog 5 #[.int .u8 (L : Int), .int .u8 (S : Int), .int .i64 n, .int .u64 (T : Int)] w fun e w' => e = .returned (.bool true) ∧ Step [] w w' := by
  have hm2 : m ≤ 256 := by omega
  have HM1 := Lib.hid (show 1 ≤ m by omega)
  have HM2 := Lib.hid (show m ≤ 8192 by omega)
  have em : (1 : Int) + (L : Int) = (m : Int) := by omega
  have emin : ((m : Int) < (S : Int)) = True := by simp; omega
  have HK1 := Lib.hid (show (m : Int) < 9223372036854775808 by omega)
  have HK2 := Lib.hid (show m ≤ m - 0 by omega)
  have HK := Lib.hid hkm
  have HL := Lib.hid (show ((m - k : Nat) : Int) = (l : Int) by omega)
  have HN := Lib.hid (show n < 9223372036854775808 by omega)
  have HA8 := Lib.hid (show amt 8 n (m - k) = 1 from amt_neg hn)
  have HA7 := Lib.hid (show amt 7 n (m - k) = 1 from amt_neg hn)
  have HP8 := Lib.hid (show paid n k (m - k) = k from paid_neg hn)
  have HL2 := Lib.hid (show ((m - k : Nat) : Int) = (l : Int) by omega)
  have HH2 := Lib.hid (show ((k - 0 : Nat) : Int) = (k : Int) by omega)
  have HT := Lib.hid hT
  have HE := Lib.hid (show lateE m k T = 24 from if_pos ht)
  have HG := Lib.hid (show lateG m m k T = m from if_pos ht)
  have HP3 := Lib.hid (show k ≤ m by omega)
  have HG3 := Lib.hid (show m < 4611686018427387904 by omega)
  have HL3 := Lib.hid (show ((m - k : Nat) : Int) = (l : Int) by omega)
  have t1 : (n < 0) = True := by simp; omega
  have t2 : (0 ≤ n) = False := by simp; omega
  have t3 : ((l : Int) < n) = False := by simp; omega
  have t4 : (n ≤ (l : Int)) = True := by simp; omega
  have w1 : (m : Int) - (l : Int) = (k : Int) := by omega
  have w2 : IntKind.u64.wrap (k : Int) = (k : Int) := by rw [IntKind.wrap_u64]; omega
  have w3 : IntKind.u64.wrap ((k : Int) + (m : Int)) = (k : Int) + (m : Int) := by rw [IntKind.wrap_u64]; omega
  have w4 : IntKind.u64.wrap (m : Int) = (m : Int) := by rw [IntKind.wrap_u64]; omega
  have t5 : ((k : Int) + (m : Int) < (T : Int)) = True := by simp; omega
  have t6 : ((T : Int) ≤ (m : Int)) = False := by simp; omega
  have HH := Lib.hid (show m = k by omega)
  clear hm hkm hl hT hSm ht hn hk
  go_enter Try.func5, Try.ntmps5
  go_wp2_with fail
  refine (newSp_ok m HM1.out HM2.out _).mono ?_
  rintro e wx1 ⟨bs, rfl, hb, h, hs⟩
  have HB_bs := Lib.hid (show w.heap.size ≤ bs from hb)
  have H_bs := Lib.hid h
  have HS := Lib.hid hs
  clear h hb hs
  go_wp2_with fail
  refine (newGv_ok m HM1.out HM2.out _).mono ?_
  rintro e wx2 ⟨bg, rfl, hb, h, hs⟩
  have HN_bs_bg := Lib.hid (show bs ≠ bg by have := heap_lt H_bs.out; omega)
  have HB_bg := Lib.hid (show w.heap.size ≤ bg from Nat.le_trans HS.out.size hb)
  replace H_bs := Lib.hid (show SpAt wx2 bs m m 0 from obj_step H_bs.out hs (by simp))
  have H_bg := Lib.hid h
  replace HS := Lib.hid (HS.out.trans hs)
  clear h hb hs
  go_wp2_with fail
  refine (spend_is bs m m 0 k (m : Int) 0 HK1.out HM1.out (by omega) (by have := HM2.out; omega) (amt_ok HK2.out) (by rw [paid_ok HK2.out]; have := HH.out; omega) _ H_bs.out).mono ?_
  rintro e wx3 ⟨rfl, h, hs⟩
  replace H_bs := Lib.hid h
  replace H_bg := Lib.hid (show GvAt wx3 bg m m 0 0 from obj_step H_bg.out hs (by simp; exact HN_bs_bg.out.symm))
  replace HS := Lib.hid (two_of (bg := 0) HS.out HB_bs.out hs)
  clear h hs
  go_wp2_with fail
  refine (take_is bg m m 0 0 k (m : Int) 0 HK1.out HM1.out (by omega) (by have := HM2.out; omega) (amt_ok HK2.out) (by rw [paid_ok HK2.out]; have := HH.out; omega) _ H_bg.out).mono ?_
  rintro e wx4 ⟨rfl, h, hs⟩
  replace H_bg := Lib.hid h
  replace H_bs := Lib.hid (show SpAt wx4 bs m m k from obj_step H_bs.out hs (by simp; exact HN_bs_bg.out))
  replace HS := Lib.hid (two_of (bg := 0) HS.out HB_bg.out hs)
  clear h hs
  go_wp2_with fail
  refine (left_is bs m m k (l : Int) HM1.out HK.out (by have := HM2.out; omega) HL.out _ H_bs.out).mono ?_
  rintro e wx5 ⟨rfl, h, hs⟩
  replace H_bs := Lib.hid h
  replace H_bg := Lib.hid (show GvAt wx5 bg m m k 0 from obj_step H_bg.out hs (by simp; exact HN_bs_bg.out.symm))
  replace HS := Lib.hid (two_of (bg := 0) HS.out HB_bs.out hs)
  clear h hs
  go_wp2_with fail
  refine (held_is bg m m k 0 (k : Int) HM1.out (by omega) (by have := HK.out; have := HM2.out; omega) (by omega) _ H_bg.out).mono ?_
  rintro e wx6 ⟨rfl, h, hs⟩
  replace H_bg := Lib.hid h
  replace H_bs := Lib.hid (show SpAt wx6 bs m m k from obj_step H_bs.out hs (by simp; exact HN_bs_bg.out))
  replace HS := Lib.hid (two_of (bg := 0) HS.out HB_bg.out hs)
  clear h hs
  go_wp2_with fail
  refine (spend_is bs m m k k n 1 HN.out HM1.out HK.out (by have := HM2.out; omega) HA8.out HP8.out _ H_bs.out).mono ?_
  rintro e wx7 ⟨rfl, h, hs⟩
  replace H_bs := Lib.hid h
  replace H_bg := Lib.hid (show GvAt wx7 bg m m k 0 from obj_step H_bg.out hs (by simp; exact HN_bs_bg.out.symm))
  replace HS := Lib.hid (two_of (bg := 0) HS.out HB_bs.out hs)
  clear h hs
  go_wp2_with fail
  refine (take_is bg m m k 0 k n 1 HN.out HM1.out HK.out (by have := HM2.out; omega) HA7.out HP8.out _ H_bg.out).mono ?_
  rintro e wx8 ⟨rfl, h, hs⟩
  replace H_bg := Lib.hid h
  replace H_bs := Lib.hid (show SpAt wx8 bs m m k from obj_step H_bs.out hs (by simp; exact HN_bs_bg.out))
  replace HS := Lib.hid (two_of (bg := 0) HS.out HB_bg.out hs)
  clear h hs
  go_wp2_with fail
  refine (left_is bs m m k (l : Int) HM1.out HK.out (by have := HM2.out; omega) HL2.out _ H_bs.out).mono ?_
  rintro e wx9 ⟨rfl, h, hs⟩
  replace H_bs := Lib.hid h
  replace H_bg := Lib.hid (show GvAt wx9 bg m m k 0 from obj_step H_bg.out hs (by simp; exact HN_bs_bg.out.symm))
  replace HS := Lib.hid (two_of (bg := 0) HS.out HB_bs.out hs)
  clear h hs
  go_wp2_with fail
  refine (held_is bg m m k 0 (k : Int) HM1.out (by omega) (by have := HK.out; have := HM2.out; omega) HH2.out _ H_bg.out).mono ?_
  rintro e wx10 ⟨rfl, h, hs⟩
  replace H_bg := Lib.hid h
  replace H_bs := Lib.hid (show SpAt wx10 bs m m k from obj_step H_bs.out hs (by simp; exact HN_bs_bg.out))
  replace HS := Lib.hid (two_of (bg := 0) HS.out HB_bg.out hs)
  clear h hs
  go_wp2_with fail
  refine (left_is bs m m k (l : Int) HM1.out HK.out (by have := HM2.out; omega) HL2.out _ H_bs.out).mono ?_
  rintro e wx11 ⟨rfl, h, hs⟩
  replace H_bs := Lib.hid h
  replace H_bg := Lib.hid (show GvAt wx11 bg m m k 0 from obj_step H_bg.out hs (by simp; exact HN_bs_bg.out.symm))
  replace HS := Lib.hid (two_of (bg := 0) HS.out HB_bs.out hs)
  clear h hs
  clear H_bg
  go_wp2_with fail
  refine (granted_is bs m m k m 24 _ T rfl HM1.out (by have := HM2.out; omega) HK.out (by have := HM2.out; omega) HT.out HE.out HG.out _ H_bs.out).mono ?_
  rintro e wx12 ⟨rfl, h, hs⟩
  replace H_bs := Lib.hid h
  replace HS := Lib.hid (two_of (bg := 0) HS.out HB_bs.out hs)
  clear h hs
  go_wp2_with fail
  refine (left_is bs m m k (l : Int) HM1.out HP3.out HG3.out HL3.out _ H_bs.out).mono ?_
  rintro e wx13 ⟨rfl, h, hs⟩
  replace H_bs := Lib.hid h
  replace HS := Lib.hid (two_of (bg := 0) HS.out HB_bs.out hs)
  clear h hs
  go_wp2_with fail
  refine (wakes_any _).mono ?_
  rintro e wx14 ⟨rfl, hs⟩
  replace H_bs := Lib.hid (show SpAt wx14 bs m m k from obj_step H_bs.out hs (by simp))
  replace HS := Lib.hid (HS.out.trans hs)
  clear hs
  go_wp2_with fail
  go_ret
  exact ⟨rfl, HS.out⟩

set_option maxRecDepth 100000 in
set_option maxHeartbeats 4000000 in
theorem refused_ge_neg_old (L S m k l : Nat) (n : Int) (T : Nat) (hm : m = L + 1) (hL : L < 256) (hk : k = m) (hS : S < 256) (hkm : k ≤ m) (hl : l = m - k) (hT : T < 18446744073709551616) (hSm : m < S) (hn : n < 0) (ht : T ≤ m) (w : World) : Calls Try.prog 5 #[.int .u8 (L : Int), .int .u8 (S : Int), .int .i64 n, .int .u64 (T : Int)] w fun e w' => e = .returned (.bool true) ∧ Step [] w w' := by
  have hm2 : m ≤ 256 := by omega
  have HM1 := Lib.hid (show 1 ≤ m by omega)
  have HM2 := Lib.hid (show m ≤ 8192 by omega)
  have em : (1 : Int) + (L : Int) = (m : Int) := by omega
  have emin : ((m : Int) < (S : Int)) = True := by simp; omega
  have HK1 := Lib.hid (show (m : Int) < 9223372036854775808 by omega)
  have HK2 := Lib.hid (show m ≤ m - 0 by omega)
  have HK := Lib.hid hkm
  have HL := Lib.hid (show ((m - k : Nat) : Int) = (l : Int) by omega)
  have HN := Lib.hid (show n < 9223372036854775808 by omega)
  have HA8 := Lib.hid (show amt 8 n (m - k) = 1 from amt_neg hn)
  have HA7 := Lib.hid (show amt 7 n (m - k) = 1 from amt_neg hn)
  have HP8 := Lib.hid (show paid n k (m - k) = k from paid_neg hn)
  have HL2 := Lib.hid (show ((m - k : Nat) : Int) = (l : Int) by omega)
  have HH2 := Lib.hid (show ((k - 0 : Nat) : Int) = (k : Int) by omega)
  have HT := Lib.hid hT
  have HE := Lib.hid (show lateE m k T = 0 from if_neg (by omega))
  have HG := Lib.hid (show lateG m m k T = m from (if_neg (by omega)).trans (by omega))
  have HP3 := Lib.hid (show k ≤ m by omega)
  have HG3 := Lib.hid (show m < 4611686018427387904 by omega)
  have HL3 := Lib.hid (show ((m - k : Nat) : Int) = (l : Int) by omega)
  have t1 : (n < 0) = True := by simp; omega
  have t2 : (0 ≤ n) = False := by simp; omega
  have t3 : ((l : Int) < n) = False := by simp; omega
  have t4 : (n ≤ (l : Int)) = True := by simp; omega
  have w1 : (m : Int) - (l : Int) = (k : Int) := by omega
  have w2 : IntKind.u64.wrap (k : Int) = (k : Int) := by rw [IntKind.wrap_u64]; omega
  have w3 : IntKind.u64.wrap ((k : Int) + (m : Int)) = (k : Int) + (m : Int) := by rw [IntKind.wrap_u64]; omega
  have w4 : IntKind.u64.wrap (m : Int) = (m : Int) := by rw [IntKind.wrap_u64]; omega
  have t5 : ((k : Int) + (m : Int) < (T : Int)) = False := by simp; omega
  have t6 : ((T : Int) ≤ (m : Int)) = True := by simp; omega
  have HH := Lib.hid (show m = k by omega)
  clear hm hkm hl hT hSm ht hn hk
  go_enter Try.func5, Try.ntmps5
  go_wp2_with fail
  refine (newSp_ok m HM1.out HM2.out _).mono ?_
  rintro e wx1 ⟨bs, rfl, hb, h, hs⟩
  have HB_bs := Lib.hid (show w.heap.size ≤ bs from hb)
  have H_bs := Lib.hid h
  have HS := Lib.hid hs
  clear h hb hs
  go_wp2_with fail
  refine (newGv_ok m HM1.out HM2.out _).mono ?_
  rintro e wx2 ⟨bg, rfl, hb, h, hs⟩
  have HN_bs_bg := Lib.hid (show bs ≠ bg by have := heap_lt H_bs.out; omega)
  have HB_bg := Lib.hid (show w.heap.size ≤ bg from Nat.le_trans HS.out.size hb)
  replace H_bs := Lib.hid (show SpAt wx2 bs m m 0 from obj_step H_bs.out hs (by simp))
  have H_bg := Lib.hid h
  replace HS := Lib.hid (HS.out.trans hs)
  clear h hb hs
  go_wp2_with fail
  refine (spend_is bs m m 0 k (m : Int) 0 HK1.out HM1.out (by omega) (by have := HM2.out; omega) (amt_ok HK2.out) (by rw [paid_ok HK2.out]; have := HH.out; omega) _ H_bs.out).mono ?_
  rintro e wx3 ⟨rfl, h, hs⟩
  replace H_bs := Lib.hid h
  replace H_bg := Lib.hid (show GvAt wx3 bg m m 0 0 from obj_step H_bg.out hs (by simp; exact HN_bs_bg.out.symm))
  replace HS := Lib.hid (two_of (bg := 0) HS.out HB_bs.out hs)
  clear h hs
  go_wp2_with fail
  refine (take_is bg m m 0 0 k (m : Int) 0 HK1.out HM1.out (by omega) (by have := HM2.out; omega) (amt_ok HK2.out) (by rw [paid_ok HK2.out]; have := HH.out; omega) _ H_bg.out).mono ?_
  rintro e wx4 ⟨rfl, h, hs⟩
  replace H_bg := Lib.hid h
  replace H_bs := Lib.hid (show SpAt wx4 bs m m k from obj_step H_bs.out hs (by simp; exact HN_bs_bg.out))
  replace HS := Lib.hid (two_of (bg := 0) HS.out HB_bg.out hs)
  clear h hs
  go_wp2_with fail
  refine (left_is bs m m k (l : Int) HM1.out HK.out (by have := HM2.out; omega) HL.out _ H_bs.out).mono ?_
  rintro e wx5 ⟨rfl, h, hs⟩
  replace H_bs := Lib.hid h
  replace H_bg := Lib.hid (show GvAt wx5 bg m m k 0 from obj_step H_bg.out hs (by simp; exact HN_bs_bg.out.symm))
  replace HS := Lib.hid (two_of (bg := 0) HS.out HB_bs.out hs)
  clear h hs
  go_wp2_with fail
  refine (held_is bg m m k 0 (k : Int) HM1.out (by omega) (by have := HK.out; have := HM2.out; omega) (by omega) _ H_bg.out).mono ?_
  rintro e wx6 ⟨rfl, h, hs⟩
  replace H_bg := Lib.hid h
  replace H_bs := Lib.hid (show SpAt wx6 bs m m k from obj_step H_bs.out hs (by simp; exact HN_bs_bg.out))
  replace HS := Lib.hid (two_of (bg := 0) HS.out HB_bg.out hs)
  clear h hs
  go_wp2_with fail
  refine (spend_is bs m m k k n 1 HN.out HM1.out HK.out (by have := HM2.out; omega) HA8.out HP8.out _ H_bs.out).mono ?_
  rintro e wx7 ⟨rfl, h, hs⟩
  replace H_bs := Lib.hid h
  replace H_bg := Lib.hid (show GvAt wx7 bg m m k 0 from obj_step H_bg.out hs (by simp; exact HN_bs_bg.out.symm))
  replace HS := Lib.hid (two_of (bg := 0) HS.out HB_bs.out hs)
  clear h hs
  go_wp2_with fail
  refine (take_is bg m m k 0 k n 1 HN.out HM1.out HK.out (by have := HM2.out; omega) HA7.out HP8.out _ H_bg.out).mono ?_
  rintro e wx8 ⟨rfl, h, hs⟩
  replace H_bg := Lib.hid h
  replace H_bs := Lib.hid (show SpAt wx8 bs m m k from obj_step H_bs.out hs (by simp; exact HN_bs_bg.out))
  replace HS := Lib.hid (two_of (bg := 0) HS.out HB_bg.out hs)
  clear h hs
  go_wp2_with fail
  refine (left_is bs m m k (l : Int) HM1.out HK.out (by have := HM2.out; omega) HL2.out _ H_bs.out).mono ?_
  rintro e wx9 ⟨rfl, h, hs⟩
  replace H_bs := Lib.hid h
  replace H_bg := Lib.hid (show GvAt wx9 bg m m k 0 from obj_step H_bg.out hs (by simp; exact HN_bs_bg.out.symm))
  replace HS := Lib.hid (two_of (bg := 0) HS.out HB_bs.out hs)
  clear h hs
  go_wp2_with fail
  refine (held_is bg m m k 0 (k : Int) HM1.out (by omega) (by have := HK.out; have := HM2.out; omega) HH2.out _ H_bg.out).mono ?_
  rintro e wx10 ⟨rfl, h, hs⟩
  replace H_bg := Lib.hid h
  replace H_bs := Lib.hid (show SpAt wx10 bs m m k from obj_step H_bs.out hs (by simp; exact HN_bs_bg.out))
  replace HS := Lib.hid (two_of (bg := 0) HS.out HB_bg.out hs)
  clear h hs
  go_wp2_with fail
  refine (left_is bs m m k (l : Int) HM1.out HK.out (by have := HM2.out; omega) HL2.out _ H_bs.out).mono ?_
  rintro e wx11 ⟨rfl, h, hs⟩
  replace H_bs := Lib.hid h
  replace H_bg := Lib.hid (show GvAt wx11 bg m m k 0 from obj_step H_bg.out hs (by simp; exact HN_bs_bg.out.symm))
  replace HS := Lib.hid (two_of (bg := 0) HS.out HB_bs.out hs)
  clear h hs
  clear H_bg
  go_wp2_with fail
  refine (granted_is bs m m k m 0 _ T rfl HM1.out (by have := HM2.out; omega) HK.out (by have := HM2.out; omega) HT.out HE.out HG.out _ H_bs.out).mono ?_
  rintro e wx12 ⟨rfl, h, hs⟩
  replace H_bs := Lib.hid h
  replace HS := Lib.hid (two_of (bg := 0) HS.out HB_bs.out hs)
  clear h hs
  go_wp2_with fail
  refine (left_is bs m m k (l : Int) HM1.out HP3.out HG3.out HL3.out _ H_bs.out).mono ?_
  rintro e wx13 ⟨rfl, h, hs⟩
  replace H_bs := Lib.hid h
  replace HS := Lib.hid (two_of (bg := 0) HS.out HB_bs.out hs)
  clear h hs
  go_wp2_with fail
  refine (wakes_any _).mono ?_
  rintro e wx14 ⟨rfl, hs⟩
  replace H_bs := Lib.hid (show SpAt wx14 bs m m k from obj_step H_bs.out hs (by simp))
  replace HS := Lib.hid (HS.out.trans hs)
  clear hs
  go_wp2_with fail
  go_ret
  exact ⟨rfl, HS.out⟩

set_option maxRecDepth 100000 in
set_option maxHeartbeats 4000000 in
theorem refused_ge_neg_new (L S m k l : Nat) (n : Int) (T : Nat) (hm : m = L + 1) (hL : L < 256) (hk : k = m) (hS : S < 256) (hkm : k ≤ m) (hl : l = m - k) (hT : T < 18446744073709551616) (hSm : m < S) (hn : n < 0) (ht : m < T) (ht2 : T ≤ k + m) (w : World) : Calls Try.prog 5 #[.int .u8 (L : Int), .int .u8 (S : Int), .int .i64 n, .int .u64 (T : Int)] w fun e w' => e = .returned (.bool true) ∧ Step [] w w' := by
  have hm2 : m ≤ 256 := by omega
  have HM1 := Lib.hid (show 1 ≤ m by omega)
  have HM2 := Lib.hid (show m ≤ 8192 by omega)
  have em : (1 : Int) + (L : Int) = (m : Int) := by omega
  have emin : ((m : Int) < (S : Int)) = True := by simp; omega
  have HK1 := Lib.hid (show (m : Int) < 9223372036854775808 by omega)
  have HK2 := Lib.hid (show m ≤ m - 0 by omega)
  have HK := Lib.hid hkm
  have HL := Lib.hid (show ((m - k : Nat) : Int) = (l : Int) by omega)
  have HN := Lib.hid (show n < 9223372036854775808 by omega)
  have HA8 := Lib.hid (show amt 8 n (m - k) = 1 from amt_neg hn)
  have HA7 := Lib.hid (show amt 7 n (m - k) = 1 from amt_neg hn)
  have HP8 := Lib.hid (show paid n k (m - k) = k from paid_neg hn)
  have HL2 := Lib.hid (show ((m - k : Nat) : Int) = (l : Int) by omega)
  have HH2 := Lib.hid (show ((k - 0 : Nat) : Int) = (k : Int) by omega)
  have HT := Lib.hid hT
  have HE := Lib.hid (show lateE m k T = 0 from if_neg (by omega))
  have HG := Lib.hid (show lateG m m k T = T from (if_neg (by omega)).trans (by omega))
  have HP3 := Lib.hid (show k ≤ T by omega)
  have HG3 := Lib.hid (show T < 4611686018427387904 by omega)
  have HL3 := Lib.hid (show ((T - k : Nat) : Int) = ((T : Int) - (k : Int)) by omega)
  have t1 : (n < 0) = True := by simp; omega
  have t2 : (0 ≤ n) = False := by simp; omega
  have t3 : ((l : Int) < n) = False := by simp; omega
  have t4 : (n ≤ (l : Int)) = True := by simp; omega
  have w1 : (m : Int) - (l : Int) = (k : Int) := by omega
  have w2 : IntKind.u64.wrap (k : Int) = (k : Int) := by rw [IntKind.wrap_u64]; omega
  have w3 : IntKind.u64.wrap ((k : Int) + (m : Int)) = (k : Int) + (m : Int) := by rw [IntKind.wrap_u64]; omega
  have w4 : IntKind.u64.wrap (m : Int) = (m : Int) := by rw [IntKind.wrap_u64]; omega
  have t5 : ((k : Int) + (m : Int) < (T : Int)) = False := by simp; omega
  have t6 : ((T : Int) ≤ (m : Int)) = False := by simp; omega
  have w5 : IntKind.u64.wrap ((T : Int) - (k : Int)) = (T : Int) - (k : Int) := by rw [IntKind.wrap_u64]; omega
  have HH := Lib.hid (show m = k by omega)
  clear hm hkm hl hT hSm ht ht2 hn hk
  go_enter Try.func5, Try.ntmps5
  go_wp2_with fail
  refine (newSp_ok m HM1.out HM2.out _).mono ?_
  rintro e wx1 ⟨bs, rfl, hb, h, hs⟩
  have HB_bs := Lib.hid (show w.heap.size ≤ bs from hb)
  have H_bs := Lib.hid h
  have HS := Lib.hid hs
  clear h hb hs
  go_wp2_with fail
  refine (newGv_ok m HM1.out HM2.out _).mono ?_
  rintro e wx2 ⟨bg, rfl, hb, h, hs⟩
  have HN_bs_bg := Lib.hid (show bs ≠ bg by have := heap_lt H_bs.out; omega)
  have HB_bg := Lib.hid (show w.heap.size ≤ bg from Nat.le_trans HS.out.size hb)
  replace H_bs := Lib.hid (show SpAt wx2 bs m m 0 from obj_step H_bs.out hs (by simp))
  have H_bg := Lib.hid h
  replace HS := Lib.hid (HS.out.trans hs)
  clear h hb hs
  go_wp2_with fail
  refine (spend_is bs m m 0 k (m : Int) 0 HK1.out HM1.out (by omega) (by have := HM2.out; omega) (amt_ok HK2.out) (by rw [paid_ok HK2.out]; have := HH.out; omega) _ H_bs.out).mono ?_
  rintro e wx3 ⟨rfl, h, hs⟩
  replace H_bs := Lib.hid h
  replace H_bg := Lib.hid (show GvAt wx3 bg m m 0 0 from obj_step H_bg.out hs (by simp; exact HN_bs_bg.out.symm))
  replace HS := Lib.hid (two_of (bg := 0) HS.out HB_bs.out hs)
  clear h hs
  go_wp2_with fail
  refine (take_is bg m m 0 0 k (m : Int) 0 HK1.out HM1.out (by omega) (by have := HM2.out; omega) (amt_ok HK2.out) (by rw [paid_ok HK2.out]; have := HH.out; omega) _ H_bg.out).mono ?_
  rintro e wx4 ⟨rfl, h, hs⟩
  replace H_bg := Lib.hid h
  replace H_bs := Lib.hid (show SpAt wx4 bs m m k from obj_step H_bs.out hs (by simp; exact HN_bs_bg.out))
  replace HS := Lib.hid (two_of (bg := 0) HS.out HB_bg.out hs)
  clear h hs
  go_wp2_with fail
  refine (left_is bs m m k (l : Int) HM1.out HK.out (by have := HM2.out; omega) HL.out _ H_bs.out).mono ?_
  rintro e wx5 ⟨rfl, h, hs⟩
  replace H_bs := Lib.hid h
  replace H_bg := Lib.hid (show GvAt wx5 bg m m k 0 from obj_step H_bg.out hs (by simp; exact HN_bs_bg.out.symm))
  replace HS := Lib.hid (two_of (bg := 0) HS.out HB_bs.out hs)
  clear h hs
  go_wp2_with fail
  refine (held_is bg m m k 0 (k : Int) HM1.out (by omega) (by have := HK.out; have := HM2.out; omega) (by omega) _ H_bg.out).mono ?_
  rintro e wx6 ⟨rfl, h, hs⟩
  replace H_bg := Lib.hid h
  replace H_bs := Lib.hid (show SpAt wx6 bs m m k from obj_step H_bs.out hs (by simp; exact HN_bs_bg.out))
  replace HS := Lib.hid (two_of (bg := 0) HS.out HB_bg.out hs)
  clear h hs
  go_wp2_with fail
  refine (spend_is bs m m k k n 1 HN.out HM1.out HK.out (by have := HM2.out; omega) HA8.out HP8.out _ H_bs.out).mono ?_
  rintro e wx7 ⟨rfl, h, hs⟩
  replace H_bs := Lib.hid h
  replace H_bg := Lib.hid (show GvAt wx7 bg m m k 0 from obj_step H_bg.out hs (by simp; exact HN_bs_bg.out.symm))
  replace HS := Lib.hid (two_of (bg := 0) HS.out HB_bs.out hs)
  clear h hs
  go_wp2_with fail
  refine (take_is bg m m k 0 k n 1 HN.out HM1.out HK.out (by have := HM2.out; omega) HA7.out HP8.out _ H_bg.out).mono ?_
  rintro e wx8 ⟨rfl, h, hs⟩
  replace H_bg := Lib.hid h
  replace H_bs := Lib.hid (show SpAt wx8 bs m m k from obj_step H_bs.out hs (by simp; exact HN_bs_bg.out))
  replace HS := Lib.hid (two_of (bg := 0) HS.out HB_bg.out hs)
  clear h hs
  go_wp2_with fail
  refine (left_is bs m m k (l : Int) HM1.out HK.out (by have := HM2.out; omega) HL2.out _ H_bs.out).mono ?_
  rintro e wx9 ⟨rfl, h, hs⟩
  replace H_bs := Lib.hid h
  replace H_bg := Lib.hid (show GvAt wx9 bg m m k 0 from obj_step H_bg.out hs (by simp; exact HN_bs_bg.out.symm))
  replace HS := Lib.hid (two_of (bg := 0) HS.out HB_bs.out hs)
  clear h hs
  go_wp2_with fail
  refine (held_is bg m m k 0 (k : Int) HM1.out (by omega) (by have := HK.out; have := HM2.out; omega) HH2.out _ H_bg.out).mono ?_
  rintro e wx10 ⟨rfl, h, hs⟩
  replace H_bg := Lib.hid h
  replace H_bs := Lib.hid (show SpAt wx10 bs m m k from obj_step H_bs.out hs (by simp; exact HN_bs_bg.out))
  replace HS := Lib.hid (two_of (bg := 0) HS.out HB_bg.out hs)
  clear h hs
  go_wp2_with fail
  refine (left_is bs m m k (l : Int) HM1.out HK.out (by have := HM2.out; omega) HL2.out _ H_bs.out).mono ?_
  rintro e wx11 ⟨rfl, h, hs⟩
  replace H_bs := Lib.hid h
  replace H_bg := Lib.hid (show GvAt wx11 bg m m k 0 from obj_step H_bg.out hs (by simp; exact HN_bs_bg.out.symm))
  replace HS := Lib.hid (two_of (bg := 0) HS.out HB_bs.out hs)
  clear h hs
  clear H_bg
  go_wp2_with fail
  refine (granted_is bs m m k T 0 _ T rfl HM1.out (by have := HM2.out; omega) HK.out (by have := HM2.out; omega) HT.out HE.out HG.out _ H_bs.out).mono ?_
  rintro e wx12 ⟨rfl, h, hs⟩
  replace H_bs := Lib.hid h
  replace HS := Lib.hid (two_of (bg := 0) HS.out HB_bs.out hs)
  clear h hs
  go_wp2_with fail
  refine (left_is bs m T k ((T : Int) - (k : Int)) HM1.out HP3.out HG3.out HL3.out _ H_bs.out).mono ?_
  rintro e wx13 ⟨rfl, h, hs⟩
  replace H_bs := Lib.hid h
  replace HS := Lib.hid (two_of (bg := 0) HS.out HB_bs.out hs)
  clear h hs
  go_wp2_with fail
  refine (wakes_any _).mono ?_
  rintro e wx14 ⟨rfl, hs⟩
  replace H_bs := Lib.hid (show SpAt wx14 bs m T k from obj_step H_bs.out hs (by simp))
  replace HS := Lib.hid (HS.out.trans hs)
  clear hs
  go_wp2_with fail
  go_ret
  exact ⟨rfl, HS.out⟩

set_option maxRecDepth 100000 in
set_option maxHeartbeats 4000000 in
theorem refused_ge_over_err (L S m k l : Nat) (a : Nat) (T : Nat) (hm : m = L + 1) (hL : L < 256) (hk : k = m) (hS : S < 256) (hkm : k ≤ m) (hl : l = m - k) (hT : T < 18446744073709551616) (hSm : m < S) (hn : l < a) (hn2 : a < 9223372036854775808) (ht : k + m < T) (w : World) : Calls Try.prog 5 #[.int .u8 (L : Int), .int .u8 (S : Int), .int .i64 (a : Int), .int .u64 (T : Int)] w fun e w' => e = .returned (.bool true) ∧ Step [] w w' := by
  have hm2 : m ≤ 256 := by omega
  have HM1 := Lib.hid (show 1 ≤ m by omega)
  have HM2 := Lib.hid (show m ≤ 8192 by omega)
  have em : (1 : Int) + (L : Int) = (m : Int) := by omega
  have emin : ((m : Int) < (S : Int)) = True := by simp; omega
  have HK1 := Lib.hid (show (m : Int) < 9223372036854775808 by omega)
  have HK2 := Lib.hid (show m ≤ m - 0 by omega)
  have HK := Lib.hid hkm
  have HL := Lib.hid (show ((m - k : Nat) : Int) = (l : Int) by omega)
  have HN := Lib.hid (show (a : Int) < 9223372036854775808 by omega)
  have HA8 := Lib.hid (show amt 8 (a : Int) (m - k) = 8 from amt_over (by omega))
  have HA7 := Lib.hid (show amt 7 (a : Int) (m - k) = 7 from amt_over (by omega))
  have HP8 := Lib.hid (show paid (a : Int) k (m - k) = k from paid_over (by omega))
  have HL2 := Lib.hid (show ((m - k : Nat) : Int) = (l : Int) by omega)
  have HH2 := Lib.hid (show ((k - 0 : Nat) : Int) = (k : Int) by omega)
  have HT := Lib.hid hT
  have HE := Lib.hid (show lateE m k T = 24 from if_pos ht)
  have HG := Lib.hid (show lateG m m k T = m from if_pos ht)
  have HP3 := Lib.hid (show k ≤ m by omega)
  have HG3 := Lib.hid (show m < 4611686018427387904 by omega)
  have HL3 := Lib.hid (show ((m - k : Nat) : Int) = (l : Int) by omega)
  have t3 : ((l : Int) < (a : Int)) = True := by simp; omega
  have t4 : ((a : Int) ≤ (l : Int)) = False := by simp; omega
  have t1 : ((a : Int) < 0) = False := by simp
  have t2 : (0 ≤ (a : Int)) = True := by simp
  have w1 : (m : Int) - (l : Int) = (k : Int) := by omega
  have w2 : IntKind.u64.wrap (k : Int) = (k : Int) := by rw [IntKind.wrap_u64]; omega
  have w3 : IntKind.u64.wrap ((k : Int) + (m : Int)) = (k : Int) + (m : Int) := by rw [IntKind.wrap_u64]; omega
  have w4 : IntKind.u64.wrap (m : Int) = (m : Int) := by rw [IntKind.wrap_u64]; omega
  have t5 : ((k : Int) + (m : Int) < (T : Int)) = True := by simp; omega
  have t6 : ((T : Int) ≤ (m : Int)) = False := by simp; omega
  have HH := Lib.hid (show m = k by omega)
  clear hm hkm hl hT hSm ht hn hn2 hk
  go_enter Try.func5, Try.ntmps5
  go_wp2_with fail
  refine (newSp_ok m HM1.out HM2.out _).mono ?_
  rintro e wx1 ⟨bs, rfl, hb, h, hs⟩
  have HB_bs := Lib.hid (show w.heap.size ≤ bs from hb)
  have H_bs := Lib.hid h
  have HS := Lib.hid hs
  clear h hb hs
  go_wp2_with fail
  refine (newGv_ok m HM1.out HM2.out _).mono ?_
  rintro e wx2 ⟨bg, rfl, hb, h, hs⟩
  have HN_bs_bg := Lib.hid (show bs ≠ bg by have := heap_lt H_bs.out; omega)
  have HB_bg := Lib.hid (show w.heap.size ≤ bg from Nat.le_trans HS.out.size hb)
  replace H_bs := Lib.hid (show SpAt wx2 bs m m 0 from obj_step H_bs.out hs (by simp))
  have H_bg := Lib.hid h
  replace HS := Lib.hid (HS.out.trans hs)
  clear h hb hs
  go_wp2_with fail
  refine (spend_is bs m m 0 k (m : Int) 0 HK1.out HM1.out (by omega) (by have := HM2.out; omega) (amt_ok HK2.out) (by rw [paid_ok HK2.out]; have := HH.out; omega) _ H_bs.out).mono ?_
  rintro e wx3 ⟨rfl, h, hs⟩
  replace H_bs := Lib.hid h
  replace H_bg := Lib.hid (show GvAt wx3 bg m m 0 0 from obj_step H_bg.out hs (by simp; exact HN_bs_bg.out.symm))
  replace HS := Lib.hid (two_of (bg := 0) HS.out HB_bs.out hs)
  clear h hs
  go_wp2_with fail
  refine (take_is bg m m 0 0 k (m : Int) 0 HK1.out HM1.out (by omega) (by have := HM2.out; omega) (amt_ok HK2.out) (by rw [paid_ok HK2.out]; have := HH.out; omega) _ H_bg.out).mono ?_
  rintro e wx4 ⟨rfl, h, hs⟩
  replace H_bg := Lib.hid h
  replace H_bs := Lib.hid (show SpAt wx4 bs m m k from obj_step H_bs.out hs (by simp; exact HN_bs_bg.out))
  replace HS := Lib.hid (two_of (bg := 0) HS.out HB_bg.out hs)
  clear h hs
  go_wp2_with fail
  refine (left_is bs m m k (l : Int) HM1.out HK.out (by have := HM2.out; omega) HL.out _ H_bs.out).mono ?_
  rintro e wx5 ⟨rfl, h, hs⟩
  replace H_bs := Lib.hid h
  replace H_bg := Lib.hid (show GvAt wx5 bg m m k 0 from obj_step H_bg.out hs (by simp; exact HN_bs_bg.out.symm))
  replace HS := Lib.hid (two_of (bg := 0) HS.out HB_bs.out hs)
  clear h hs
  go_wp2_with fail
  refine (held_is bg m m k 0 (k : Int) HM1.out (by omega) (by have := HK.out; have := HM2.out; omega) (by omega) _ H_bg.out).mono ?_
  rintro e wx6 ⟨rfl, h, hs⟩
  replace H_bg := Lib.hid h
  replace H_bs := Lib.hid (show SpAt wx6 bs m m k from obj_step H_bs.out hs (by simp; exact HN_bs_bg.out))
  replace HS := Lib.hid (two_of (bg := 0) HS.out HB_bg.out hs)
  clear h hs
  go_wp2_with fail
  refine (spend_is bs m m k k (a : Int) 8 HN.out HM1.out HK.out (by have := HM2.out; omega) HA8.out HP8.out _ H_bs.out).mono ?_
  rintro e wx7 ⟨rfl, h, hs⟩
  replace H_bs := Lib.hid h
  replace H_bg := Lib.hid (show GvAt wx7 bg m m k 0 from obj_step H_bg.out hs (by simp; exact HN_bs_bg.out.symm))
  replace HS := Lib.hid (two_of (bg := 0) HS.out HB_bs.out hs)
  clear h hs
  go_wp2_with fail
  refine (take_is bg m m k 0 k (a : Int) 7 HN.out HM1.out HK.out (by have := HM2.out; omega) HA7.out HP8.out _ H_bg.out).mono ?_
  rintro e wx8 ⟨rfl, h, hs⟩
  replace H_bg := Lib.hid h
  replace H_bs := Lib.hid (show SpAt wx8 bs m m k from obj_step H_bs.out hs (by simp; exact HN_bs_bg.out))
  replace HS := Lib.hid (two_of (bg := 0) HS.out HB_bg.out hs)
  clear h hs
  go_wp2_with fail
  refine (left_is bs m m k (l : Int) HM1.out HK.out (by have := HM2.out; omega) HL2.out _ H_bs.out).mono ?_
  rintro e wx9 ⟨rfl, h, hs⟩
  replace H_bs := Lib.hid h
  replace H_bg := Lib.hid (show GvAt wx9 bg m m k 0 from obj_step H_bg.out hs (by simp; exact HN_bs_bg.out.symm))
  replace HS := Lib.hid (two_of (bg := 0) HS.out HB_bs.out hs)
  clear h hs
  go_wp2_with fail
  refine (held_is bg m m k 0 (k : Int) HM1.out (by omega) (by have := HK.out; have := HM2.out; omega) HH2.out _ H_bg.out).mono ?_
  rintro e wx10 ⟨rfl, h, hs⟩
  replace H_bg := Lib.hid h
  replace H_bs := Lib.hid (show SpAt wx10 bs m m k from obj_step H_bs.out hs (by simp; exact HN_bs_bg.out))
  replace HS := Lib.hid (two_of (bg := 0) HS.out HB_bg.out hs)
  clear h hs
  go_wp2_with fail
  refine (left_is bs m m k (l : Int) HM1.out HK.out (by have := HM2.out; omega) HL2.out _ H_bs.out).mono ?_
  rintro e wx11 ⟨rfl, h, hs⟩
  replace H_bs := Lib.hid h
  replace H_bg := Lib.hid (show GvAt wx11 bg m m k 0 from obj_step H_bg.out hs (by simp; exact HN_bs_bg.out.symm))
  replace HS := Lib.hid (two_of (bg := 0) HS.out HB_bs.out hs)
  clear h hs
  clear H_bg
  go_wp2_with fail
  refine (granted_is bs m m k m 24 _ T rfl HM1.out (by have := HM2.out; omega) HK.out (by have := HM2.out; omega) HT.out HE.out HG.out _ H_bs.out).mono ?_
  rintro e wx12 ⟨rfl, h, hs⟩
  replace H_bs := Lib.hid h
  replace HS := Lib.hid (two_of (bg := 0) HS.out HB_bs.out hs)
  clear h hs
  go_wp2_with fail
  refine (left_is bs m m k (l : Int) HM1.out HP3.out HG3.out HL3.out _ H_bs.out).mono ?_
  rintro e wx13 ⟨rfl, h, hs⟩
  replace H_bs := Lib.hid h
  replace HS := Lib.hid (two_of (bg := 0) HS.out HB_bs.out hs)
  clear h hs
  go_wp2_with fail
  refine (wakes_any _).mono ?_
  rintro e wx14 ⟨rfl, hs⟩
  replace H_bs := Lib.hid (show SpAt wx14 bs m m k from obj_step H_bs.out hs (by simp))
  replace HS := Lib.hid (HS.out.trans hs)
  clear hs
  go_wp2_with fail
  go_ret
  exact ⟨rfl, HS.out⟩

set_option maxRecDepth 100000 in
set_option maxHeartbeats 4000000 in
theorem refused_ge_over_old (L S m k l : Nat) (a : Nat) (T : Nat) (hm : m = L + 1) (hL : L < 256) (hk : k = m) (hS : S < 256) (hkm : k ≤ m) (hl : l = m - k) (hT : T < 18446744073709551616) (hSm : m < S) (hn : l < a) (hn2 : a < 9223372036854775808) (ht : T ≤ m) (w : World) : Calls Try.prog 5 #[.int .u8 (L : Int), .int .u8 (S : Int), .int .i64 (a : Int), .int .u64 (T : Int)] w fun e w' => e = .returned (.bool true) ∧ Step [] w w' := by
  have hm2 : m ≤ 256 := by omega
  have HM1 := Lib.hid (show 1 ≤ m by omega)
  have HM2 := Lib.hid (show m ≤ 8192 by omega)
  have em : (1 : Int) + (L : Int) = (m : Int) := by omega
  have emin : ((m : Int) < (S : Int)) = True := by simp; omega
  have HK1 := Lib.hid (show (m : Int) < 9223372036854775808 by omega)
  have HK2 := Lib.hid (show m ≤ m - 0 by omega)
  have HK := Lib.hid hkm
  have HL := Lib.hid (show ((m - k : Nat) : Int) = (l : Int) by omega)
  have HN := Lib.hid (show (a : Int) < 9223372036854775808 by omega)
  have HA8 := Lib.hid (show amt 8 (a : Int) (m - k) = 8 from amt_over (by omega))
  have HA7 := Lib.hid (show amt 7 (a : Int) (m - k) = 7 from amt_over (by omega))
  have HP8 := Lib.hid (show paid (a : Int) k (m - k) = k from paid_over (by omega))
  have HL2 := Lib.hid (show ((m - k : Nat) : Int) = (l : Int) by omega)
  have HH2 := Lib.hid (show ((k - 0 : Nat) : Int) = (k : Int) by omega)
  have HT := Lib.hid hT
  have HE := Lib.hid (show lateE m k T = 0 from if_neg (by omega))
  have HG := Lib.hid (show lateG m m k T = m from (if_neg (by omega)).trans (by omega))
  have HP3 := Lib.hid (show k ≤ m by omega)
  have HG3 := Lib.hid (show m < 4611686018427387904 by omega)
  have HL3 := Lib.hid (show ((m - k : Nat) : Int) = (l : Int) by omega)
  have t3 : ((l : Int) < (a : Int)) = True := by simp; omega
  have t4 : ((a : Int) ≤ (l : Int)) = False := by simp; omega
  have t1 : ((a : Int) < 0) = False := by simp
  have t2 : (0 ≤ (a : Int)) = True := by simp
  have w1 : (m : Int) - (l : Int) = (k : Int) := by omega
  have w2 : IntKind.u64.wrap (k : Int) = (k : Int) := by rw [IntKind.wrap_u64]; omega
  have w3 : IntKind.u64.wrap ((k : Int) + (m : Int)) = (k : Int) + (m : Int) := by rw [IntKind.wrap_u64]; omega
  have w4 : IntKind.u64.wrap (m : Int) = (m : Int) := by rw [IntKind.wrap_u64]; omega
  have t5 : ((k : Int) + (m : Int) < (T : Int)) = False := by simp; omega
  have t6 : ((T : Int) ≤ (m : Int)) = True := by simp; omega
  have HH := Lib.hid (show m = k by omega)
  clear hm hkm hl hT hSm ht hn hn2 hk
  go_enter Try.func5, Try.ntmps5
  go_wp2_with fail
  refine (newSp_ok m HM1.out HM2.out _).mono ?_
  rintro e wx1 ⟨bs, rfl, hb, h, hs⟩
  have HB_bs := Lib.hid (show w.heap.size ≤ bs from hb)
  have H_bs := Lib.hid h
  have HS := Lib.hid hs
  clear h hb hs
  go_wp2_with fail
  refine (newGv_ok m HM1.out HM2.out _).mono ?_
  rintro e wx2 ⟨bg, rfl, hb, h, hs⟩
  have HN_bs_bg := Lib.hid (show bs ≠ bg by have := heap_lt H_bs.out; omega)
  have HB_bg := Lib.hid (show w.heap.size ≤ bg from Nat.le_trans HS.out.size hb)
  replace H_bs := Lib.hid (show SpAt wx2 bs m m 0 from obj_step H_bs.out hs (by simp))
  have H_bg := Lib.hid h
  replace HS := Lib.hid (HS.out.trans hs)
  clear h hb hs
  go_wp2_with fail
  refine (spend_is bs m m 0 k (m : Int) 0 HK1.out HM1.out (by omega) (by have := HM2.out; omega) (amt_ok HK2.out) (by rw [paid_ok HK2.out]; have := HH.out; omega) _ H_bs.out).mono ?_
  rintro e wx3 ⟨rfl, h, hs⟩
  replace H_bs := Lib.hid h
  replace H_bg := Lib.hid (show GvAt wx3 bg m m 0 0 from obj_step H_bg.out hs (by simp; exact HN_bs_bg.out.symm))
  replace HS := Lib.hid (two_of (bg := 0) HS.out HB_bs.out hs)
  clear h hs
  go_wp2_with fail
  refine (take_is bg m m 0 0 k (m : Int) 0 HK1.out HM1.out (by omega) (by have := HM2.out; omega) (amt_ok HK2.out) (by rw [paid_ok HK2.out]; have := HH.out; omega) _ H_bg.out).mono ?_
  rintro e wx4 ⟨rfl, h, hs⟩
  replace H_bg := Lib.hid h
  replace H_bs := Lib.hid (show SpAt wx4 bs m m k from obj_step H_bs.out hs (by simp; exact HN_bs_bg.out))
  replace HS := Lib.hid (two_of (bg := 0) HS.out HB_bg.out hs)
  clear h hs
  go_wp2_with fail
  refine (left_is bs m m k (l : Int) HM1.out HK.out (by have := HM2.out; omega) HL.out _ H_bs.out).mono ?_
  rintro e wx5 ⟨rfl, h, hs⟩
  replace H_bs := Lib.hid h
  replace H_bg := Lib.hid (show GvAt wx5 bg m m k 0 from obj_step H_bg.out hs (by simp; exact HN_bs_bg.out.symm))
  replace HS := Lib.hid (two_of (bg := 0) HS.out HB_bs.out hs)
  clear h hs
  go_wp2_with fail
  refine (held_is bg m m k 0 (k : Int) HM1.out (by omega) (by have := HK.out; have := HM2.out; omega) (by omega) _ H_bg.out).mono ?_
  rintro e wx6 ⟨rfl, h, hs⟩
  replace H_bg := Lib.hid h
  replace H_bs := Lib.hid (show SpAt wx6 bs m m k from obj_step H_bs.out hs (by simp; exact HN_bs_bg.out))
  replace HS := Lib.hid (two_of (bg := 0) HS.out HB_bg.out hs)
  clear h hs
  go_wp2_with fail
  refine (spend_is bs m m k k (a : Int) 8 HN.out HM1.out HK.out (by have := HM2.out; omega) HA8.out HP8.out _ H_bs.out).mono ?_
  rintro e wx7 ⟨rfl, h, hs⟩
  replace H_bs := Lib.hid h
  replace H_bg := Lib.hid (show GvAt wx7 bg m m k 0 from obj_step H_bg.out hs (by simp; exact HN_bs_bg.out.symm))
  replace HS := Lib.hid (two_of (bg := 0) HS.out HB_bs.out hs)
  clear h hs
  go_wp2_with fail
  refine (take_is bg m m k 0 k (a : Int) 7 HN.out HM1.out HK.out (by have := HM2.out; omega) HA7.out HP8.out _ H_bg.out).mono ?_
  rintro e wx8 ⟨rfl, h, hs⟩
  replace H_bg := Lib.hid h
  replace H_bs := Lib.hid (show SpAt wx8 bs m m k from obj_step H_bs.out hs (by simp; exact HN_bs_bg.out))
  replace HS := Lib.hid (two_of (bg := 0) HS.out HB_bg.out hs)
  clear h hs
  go_wp2_with fail
  refine (left_is bs m m k (l : Int) HM1.out HK.out (by have := HM2.out; omega) HL2.out _ H_bs.out).mono ?_
  rintro e wx9 ⟨rfl, h, hs⟩
  replace H_bs := Lib.hid h
  replace H_bg := Lib.hid (show GvAt wx9 bg m m k 0 from obj_step H_bg.out hs (by simp; exact HN_bs_bg.out.symm))
  replace HS := Lib.hid (two_of (bg := 0) HS.out HB_bs.out hs)
  clear h hs
  go_wp2_with fail
  refine (held_is bg m m k 0 (k : Int) HM1.out (by omega) (by have := HK.out; have := HM2.out; omega) HH2.out _ H_bg.out).mono ?_
  rintro e wx10 ⟨rfl, h, hs⟩
  replace H_bg := Lib.hid h
  replace H_bs := Lib.hid (show SpAt wx10 bs m m k from obj_step H_bs.out hs (by simp; exact HN_bs_bg.out))
  replace HS := Lib.hid (two_of (bg := 0) HS.out HB_bg.out hs)
  clear h hs
  go_wp2_with fail
  refine (left_is bs m m k (l : Int) HM1.out HK.out (by have := HM2.out; omega) HL2.out _ H_bs.out).mono ?_
  rintro e wx11 ⟨rfl, h, hs⟩
  replace H_bs := Lib.hid h
  replace H_bg := Lib.hid (show GvAt wx11 bg m m k 0 from obj_step H_bg.out hs (by simp; exact HN_bs_bg.out.symm))
  replace HS := Lib.hid (two_of (bg := 0) HS.out HB_bs.out hs)
  clear h hs
  clear H_bg
  go_wp2_with fail
  refine (granted_is bs m m k m 0 _ T rfl HM1.out (by have := HM2.out; omega) HK.out (by have := HM2.out; omega) HT.out HE.out HG.out _ H_bs.out).mono ?_
  rintro e wx12 ⟨rfl, h, hs⟩
  replace H_bs := Lib.hid h
  replace HS := Lib.hid (two_of (bg := 0) HS.out HB_bs.out hs)
  clear h hs
  go_wp2_with fail
  refine (left_is bs m m k (l : Int) HM1.out HP3.out HG3.out HL3.out _ H_bs.out).mono ?_
  rintro e wx13 ⟨rfl, h, hs⟩
  replace H_bs := Lib.hid h
  replace HS := Lib.hid (two_of (bg := 0) HS.out HB_bs.out hs)
  clear h hs
  go_wp2_with fail
  refine (wakes_any _).mono ?_
  rintro e wx14 ⟨rfl, hs⟩
  replace H_bs := Lib.hid (show SpAt wx14 bs m m k from obj_step H_bs.out hs (by simp))
  replace HS := Lib.hid (HS.out.trans hs)
  clear hs
  go_wp2_with fail
  go_ret
  exact ⟨rfl, HS.out⟩

set_option maxRecDepth 100000 in
set_option maxHeartbeats 4000000 in
theorem refused_ge_over_new (L S m k l : Nat) (a : Nat) (T : Nat) (hm : m = L + 1) (hL : L < 256) (hk : k = m) (hS : S < 256) (hkm : k ≤ m) (hl : l = m - k) (hT : T < 18446744073709551616) (hSm : m < S) (hn : l < a) (hn2 : a < 9223372036854775808) (ht : m < T) (ht2 : T ≤ k + m) (w : World) : Calls Try.prog 5 #[.int .u8 (L : Int), .int .u8 (S : Int), .int .i64 (a : Int), .int .u64 (T : Int)] w fun e w' => e = .returned (.bool true) ∧ Step [] w w' := by
  have hm2 : m ≤ 256 := by omega
  have HM1 := Lib.hid (show 1 ≤ m by omega)
  have HM2 := Lib.hid (show m ≤ 8192 by omega)
  have em : (1 : Int) + (L : Int) = (m : Int) := by omega
  have emin : ((m : Int) < (S : Int)) = True := by simp; omega
  have HK1 := Lib.hid (show (m : Int) < 9223372036854775808 by omega)
  have HK2 := Lib.hid (show m ≤ m - 0 by omega)
  have HK := Lib.hid hkm
  have HL := Lib.hid (show ((m - k : Nat) : Int) = (l : Int) by omega)
  have HN := Lib.hid (show (a : Int) < 9223372036854775808 by omega)
  have HA8 := Lib.hid (show amt 8 (a : Int) (m - k) = 8 from amt_over (by omega))
  have HA7 := Lib.hid (show amt 7 (a : Int) (m - k) = 7 from amt_over (by omega))
  have HP8 := Lib.hid (show paid (a : Int) k (m - k) = k from paid_over (by omega))
  have HL2 := Lib.hid (show ((m - k : Nat) : Int) = (l : Int) by omega)
  have HH2 := Lib.hid (show ((k - 0 : Nat) : Int) = (k : Int) by omega)
  have HT := Lib.hid hT
  have HE := Lib.hid (show lateE m k T = 0 from if_neg (by omega))
  have HG := Lib.hid (show lateG m m k T = T from (if_neg (by omega)).trans (by omega))
  have HP3 := Lib.hid (show k ≤ T by omega)
  have HG3 := Lib.hid (show T < 4611686018427387904 by omega)
  have HL3 := Lib.hid (show ((T - k : Nat) : Int) = ((T : Int) - (k : Int)) by omega)
  have t3 : ((l : Int) < (a : Int)) = True := by simp; omega
  have t4 : ((a : Int) ≤ (l : Int)) = False := by simp; omega
  have t1 : ((a : Int) < 0) = False := by simp
  have t2 : (0 ≤ (a : Int)) = True := by simp
  have w1 : (m : Int) - (l : Int) = (k : Int) := by omega
  have w2 : IntKind.u64.wrap (k : Int) = (k : Int) := by rw [IntKind.wrap_u64]; omega
  have w3 : IntKind.u64.wrap ((k : Int) + (m : Int)) = (k : Int) + (m : Int) := by rw [IntKind.wrap_u64]; omega
  have w4 : IntKind.u64.wrap (m : Int) = (m : Int) := by rw [IntKind.wrap_u64]; omega
  have t5 : ((k : Int) + (m : Int) < (T : Int)) = False := by simp; omega
  have t6 : ((T : Int) ≤ (m : Int)) = False := by simp; omega
  have w5 : IntKind.u64.wrap ((T : Int) - (k : Int)) = (T : Int) - (k : Int) := by rw [IntKind.wrap_u64]; omega
  have HH := Lib.hid (show m = k by omega)
  clear hm hkm hl hT hSm ht ht2 hn hn2 hk
  go_enter Try.func5, Try.ntmps5
  go_wp2_with fail
  refine (newSp_ok m HM1.out HM2.out _).mono ?_
  rintro e wx1 ⟨bs, rfl, hb, h, hs⟩
  have HB_bs := Lib.hid (show w.heap.size ≤ bs from hb)
  have H_bs := Lib.hid h
  have HS := Lib.hid hs
  clear h hb hs
  go_wp2_with fail
  refine (newGv_ok m HM1.out HM2.out _).mono ?_
  rintro e wx2 ⟨bg, rfl, hb, h, hs⟩
  have HN_bs_bg := Lib.hid (show bs ≠ bg by have := heap_lt H_bs.out; omega)
  have HB_bg := Lib.hid (show w.heap.size ≤ bg from Nat.le_trans HS.out.size hb)
  replace H_bs := Lib.hid (show SpAt wx2 bs m m 0 from obj_step H_bs.out hs (by simp))
  have H_bg := Lib.hid h
  replace HS := Lib.hid (HS.out.trans hs)
  clear h hb hs
  go_wp2_with fail
  refine (spend_is bs m m 0 k (m : Int) 0 HK1.out HM1.out (by omega) (by have := HM2.out; omega) (amt_ok HK2.out) (by rw [paid_ok HK2.out]; have := HH.out; omega) _ H_bs.out).mono ?_
  rintro e wx3 ⟨rfl, h, hs⟩
  replace H_bs := Lib.hid h
  replace H_bg := Lib.hid (show GvAt wx3 bg m m 0 0 from obj_step H_bg.out hs (by simp; exact HN_bs_bg.out.symm))
  replace HS := Lib.hid (two_of (bg := 0) HS.out HB_bs.out hs)
  clear h hs
  go_wp2_with fail
  refine (take_is bg m m 0 0 k (m : Int) 0 HK1.out HM1.out (by omega) (by have := HM2.out; omega) (amt_ok HK2.out) (by rw [paid_ok HK2.out]; have := HH.out; omega) _ H_bg.out).mono ?_
  rintro e wx4 ⟨rfl, h, hs⟩
  replace H_bg := Lib.hid h
  replace H_bs := Lib.hid (show SpAt wx4 bs m m k from obj_step H_bs.out hs (by simp; exact HN_bs_bg.out))
  replace HS := Lib.hid (two_of (bg := 0) HS.out HB_bg.out hs)
  clear h hs
  go_wp2_with fail
  refine (left_is bs m m k (l : Int) HM1.out HK.out (by have := HM2.out; omega) HL.out _ H_bs.out).mono ?_
  rintro e wx5 ⟨rfl, h, hs⟩
  replace H_bs := Lib.hid h
  replace H_bg := Lib.hid (show GvAt wx5 bg m m k 0 from obj_step H_bg.out hs (by simp; exact HN_bs_bg.out.symm))
  replace HS := Lib.hid (two_of (bg := 0) HS.out HB_bs.out hs)
  clear h hs
  go_wp2_with fail
  refine (held_is bg m m k 0 (k : Int) HM1.out (by omega) (by have := HK.out; have := HM2.out; omega) (by omega) _ H_bg.out).mono ?_
  rintro e wx6 ⟨rfl, h, hs⟩
  replace H_bg := Lib.hid h
  replace H_bs := Lib.hid (show SpAt wx6 bs m m k from obj_step H_bs.out hs (by simp; exact HN_bs_bg.out))
  replace HS := Lib.hid (two_of (bg := 0) HS.out HB_bg.out hs)
  clear h hs
  go_wp2_with fail
  refine (spend_is bs m m k k (a : Int) 8 HN.out HM1.out HK.out (by have := HM2.out; omega) HA8.out HP8.out _ H_bs.out).mono ?_
  rintro e wx7 ⟨rfl, h, hs⟩
  replace H_bs := Lib.hid h
  replace H_bg := Lib.hid (show GvAt wx7 bg m m k 0 from obj_step H_bg.out hs (by simp; exact HN_bs_bg.out.symm))
  replace HS := Lib.hid (two_of (bg := 0) HS.out HB_bs.out hs)
  clear h hs
  go_wp2_with fail
  refine (take_is bg m m k 0 k (a : Int) 7 HN.out HM1.out HK.out (by have := HM2.out; omega) HA7.out HP8.out _ H_bg.out).mono ?_
  rintro e wx8 ⟨rfl, h, hs⟩
  replace H_bg := Lib.hid h
  replace H_bs := Lib.hid (show SpAt wx8 bs m m k from obj_step H_bs.out hs (by simp; exact HN_bs_bg.out))
  replace HS := Lib.hid (two_of (bg := 0) HS.out HB_bg.out hs)
  clear h hs
  go_wp2_with fail
  refine (left_is bs m m k (l : Int) HM1.out HK.out (by have := HM2.out; omega) HL2.out _ H_bs.out).mono ?_
  rintro e wx9 ⟨rfl, h, hs⟩
  replace H_bs := Lib.hid h
  replace H_bg := Lib.hid (show GvAt wx9 bg m m k 0 from obj_step H_bg.out hs (by simp; exact HN_bs_bg.out.symm))
  replace HS := Lib.hid (two_of (bg := 0) HS.out HB_bs.out hs)
  clear h hs
  go_wp2_with fail
  refine (held_is bg m m k 0 (k : Int) HM1.out (by omega) (by have := HK.out; have := HM2.out; omega) HH2.out _ H_bg.out).mono ?_
  rintro e wx10 ⟨rfl, h, hs⟩
  replace H_bg := Lib.hid h
  replace H_bs := Lib.hid (show SpAt wx10 bs m m k from obj_step H_bs.out hs (by simp; exact HN_bs_bg.out))
  replace HS := Lib.hid (two_of (bg := 0) HS.out HB_bg.out hs)
  clear h hs
  go_wp2_with fail
  refine (left_is bs m m k (l : Int) HM1.out HK.out (by have := HM2.out; omega) HL2.out _ H_bs.out).mono ?_
  rintro e wx11 ⟨rfl, h, hs⟩
  replace H_bs := Lib.hid h
  replace H_bg := Lib.hid (show GvAt wx11 bg m m k 0 from obj_step H_bg.out hs (by simp; exact HN_bs_bg.out.symm))
  replace HS := Lib.hid (two_of (bg := 0) HS.out HB_bs.out hs)
  clear h hs
  clear H_bg
  go_wp2_with fail
  refine (granted_is bs m m k T 0 _ T rfl HM1.out (by have := HM2.out; omega) HK.out (by have := HM2.out; omega) HT.out HE.out HG.out _ H_bs.out).mono ?_
  rintro e wx12 ⟨rfl, h, hs⟩
  replace H_bs := Lib.hid h
  replace HS := Lib.hid (two_of (bg := 0) HS.out HB_bs.out hs)
  clear h hs
  go_wp2_with fail
  refine (left_is bs m T k ((T : Int) - (k : Int)) HM1.out HP3.out HG3.out HL3.out _ H_bs.out).mono ?_
  rintro e wx13 ⟨rfl, h, hs⟩
  replace H_bs := Lib.hid h
  replace HS := Lib.hid (two_of (bg := 0) HS.out HB_bs.out hs)
  clear h hs
  go_wp2_with fail
  refine (wakes_any _).mono ?_
  rintro e wx14 ⟨rfl, hs⟩
  replace H_bs := Lib.hid (show SpAt wx14 bs m T k from obj_step H_bs.out hs (by simp))
  replace HS := Lib.hid (HS.out.trans hs)
  clear hs
  go_wp2_with fail
  go_ret
  exact ⟨rfl, HS.out⟩

set_option maxRecDepth 100000 in
set_option maxHeartbeats 4000000 in
theorem refused_ge_ok_err (L S m k l : Nat) (a : Nat) (p2 : Nat) (T : Nat) (hm : m = L + 1) (hL : L < 256) (hk : k = m) (hS : S < 256) (hkm : k ≤ m) (hl : l = m - k) (hT : T < 18446744073709551616) (hSm : m < S) (hn : a ≤ l) (hp2 : p2 = k + a) (ht : p2 + m < T) (w : World) : Calls Try.prog 5 #[.int .u8 (L : Int), .int .u8 (S : Int), .int .i64 (a : Int), .int .u64 (T : Int)] w fun e w' => e = .returned (.bool true) ∧ Step [] w w' := by
  have hm2 : m ≤ 256 := by omega
  have HM1 := Lib.hid (show 1 ≤ m by omega)
  have HM2 := Lib.hid (show m ≤ 8192 by omega)
  have em : (1 : Int) + (L : Int) = (m : Int) := by omega
  have emin : ((m : Int) < (S : Int)) = True := by simp; omega
  have HK1 := Lib.hid (show (m : Int) < 9223372036854775808 by omega)
  have HK2 := Lib.hid (show m ≤ m - 0 by omega)
  have HK := Lib.hid hkm
  have HL := Lib.hid (show ((m - k : Nat) : Int) = (l : Int) by omega)
  have HN := Lib.hid (show (a : Int) < 9223372036854775808 by omega)
  have HA8 := Lib.hid (show amt 8 (a : Int) (m - k) = 0 from amt_ok (by omega))
  have HA7 := Lib.hid (show amt 7 (a : Int) (m - k) = 0 from amt_ok (by omega))
  have HP8 := Lib.hid (show paid (a : Int) k (m - k) = p2 from (paid_ok (by omega)).trans (by omega))
  have HL2 := Lib.hid (show ((m - p2 : Nat) : Int) = ((l : Int) - (a : Int)) by omega)
  have HH2 := Lib.hid (show ((p2 - 0 : Nat) : Int) = ((k : Int) + (a : Int)) by omega)
  have HPK := Lib.hid (show p2 ≤ m by omega)
  have HT := Lib.hid hT
  have HE := Lib.hid (show lateE m p2 T = 24 from if_pos ht)
  have HG := Lib.hid (show lateG m m p2 T = m from if_pos ht)
  have HP3 := Lib.hid (show p2 ≤ m by omega)
  have HG3 := Lib.hid (show m < 4611686018427387904 by omega)
  have HL3 := Lib.hid (show ((m - p2 : Nat) : Int) = ((l : Int) - (a : Int)) by omega)
  have t3 : ((l : Int) < (a : Int)) = False := by simp; omega
  have t4 : ((a : Int) ≤ (l : Int)) = True := by simp; omega
  have t1 : ((a : Int) < 0) = False := by simp
  have t2 : (0 ≤ (a : Int)) = True := by simp
  have w1 : (m : Int) - ((l : Int) - (a : Int)) = ((k : Int) + (a : Int)) := by omega
  have w2 : IntKind.u64.wrap ((k : Int) + (a : Int)) = ((k : Int) + (a : Int)) := by rw [IntKind.wrap_u64]; omega
  have w3 : IntKind.u64.wrap (((k : Int) + (a : Int)) + (m : Int)) = ((k : Int) + (a : Int)) + (m : Int) := by rw [IntKind.wrap_u64]; omega
  have w4 : IntKind.u64.wrap (m : Int) = (m : Int) := by rw [IntKind.wrap_u64]; omega
  have t5 : (((k : Int) + (a : Int)) + (m : Int) < (T : Int)) = True := by simp; omega
  have t6 : ((T : Int) ≤ (m : Int)) = False := by simp; omega
  have w6 : IntKind.i64.wrap ((k : Int) + (a : Int)) = (k : Int) + (a : Int) := by rw [IntKind.wrap_i64]; omega
  have w7 : IntKind.i64.wrap ((l : Int) - (a : Int)) = (l : Int) - (a : Int) := by rw [IntKind.wrap_i64]; omega
  have HH := Lib.hid (show m = k by omega)
  clear hm hkm hl hT hSm ht hn hp2 hk
  go_enter Try.func5, Try.ntmps5
  go_wp2_with fail
  refine (newSp_ok m HM1.out HM2.out _).mono ?_
  rintro e wx1 ⟨bs, rfl, hb, h, hs⟩
  have HB_bs := Lib.hid (show w.heap.size ≤ bs from hb)
  have H_bs := Lib.hid h
  have HS := Lib.hid hs
  clear h hb hs
  go_wp2_with fail
  refine (newGv_ok m HM1.out HM2.out _).mono ?_
  rintro e wx2 ⟨bg, rfl, hb, h, hs⟩
  have HN_bs_bg := Lib.hid (show bs ≠ bg by have := heap_lt H_bs.out; omega)
  have HB_bg := Lib.hid (show w.heap.size ≤ bg from Nat.le_trans HS.out.size hb)
  replace H_bs := Lib.hid (show SpAt wx2 bs m m 0 from obj_step H_bs.out hs (by simp))
  have H_bg := Lib.hid h
  replace HS := Lib.hid (HS.out.trans hs)
  clear h hb hs
  go_wp2_with fail
  refine (spend_is bs m m 0 k (m : Int) 0 HK1.out HM1.out (by omega) (by have := HM2.out; omega) (amt_ok HK2.out) (by rw [paid_ok HK2.out]; have := HH.out; omega) _ H_bs.out).mono ?_
  rintro e wx3 ⟨rfl, h, hs⟩
  replace H_bs := Lib.hid h
  replace H_bg := Lib.hid (show GvAt wx3 bg m m 0 0 from obj_step H_bg.out hs (by simp; exact HN_bs_bg.out.symm))
  replace HS := Lib.hid (two_of (bg := 0) HS.out HB_bs.out hs)
  clear h hs
  go_wp2_with fail
  refine (take_is bg m m 0 0 k (m : Int) 0 HK1.out HM1.out (by omega) (by have := HM2.out; omega) (amt_ok HK2.out) (by rw [paid_ok HK2.out]; have := HH.out; omega) _ H_bg.out).mono ?_
  rintro e wx4 ⟨rfl, h, hs⟩
  replace H_bg := Lib.hid h
  replace H_bs := Lib.hid (show SpAt wx4 bs m m k from obj_step H_bs.out hs (by simp; exact HN_bs_bg.out))
  replace HS := Lib.hid (two_of (bg := 0) HS.out HB_bg.out hs)
  clear h hs
  go_wp2_with fail
  refine (left_is bs m m k (l : Int) HM1.out HK.out (by have := HM2.out; omega) HL.out _ H_bs.out).mono ?_
  rintro e wx5 ⟨rfl, h, hs⟩
  replace H_bs := Lib.hid h
  replace H_bg := Lib.hid (show GvAt wx5 bg m m k 0 from obj_step H_bg.out hs (by simp; exact HN_bs_bg.out.symm))
  replace HS := Lib.hid (two_of (bg := 0) HS.out HB_bs.out hs)
  clear h hs
  go_wp2_with fail
  refine (held_is bg m m k 0 (k : Int) HM1.out (by omega) (by have := HK.out; have := HM2.out; omega) (by omega) _ H_bg.out).mono ?_
  rintro e wx6 ⟨rfl, h, hs⟩
  replace H_bg := Lib.hid h
  replace H_bs := Lib.hid (show SpAt wx6 bs m m k from obj_step H_bs.out hs (by simp; exact HN_bs_bg.out))
  replace HS := Lib.hid (two_of (bg := 0) HS.out HB_bg.out hs)
  clear h hs
  go_wp2_with fail
  refine (spend_is bs m m k p2 (a : Int) 0 HN.out HM1.out HK.out (by have := HM2.out; omega) HA8.out HP8.out _ H_bs.out).mono ?_
  rintro e wx7 ⟨rfl, h, hs⟩
  replace H_bs := Lib.hid h
  replace H_bg := Lib.hid (show GvAt wx7 bg m m k 0 from obj_step H_bg.out hs (by simp; exact HN_bs_bg.out.symm))
  replace HS := Lib.hid (two_of (bg := 0) HS.out HB_bs.out hs)
  clear h hs
  go_wp2_with fail
  refine (take_is bg m m k 0 p2 (a : Int) 0 HN.out HM1.out HK.out (by have := HM2.out; omega) HA7.out HP8.out _ H_bg.out).mono ?_
  rintro e wx8 ⟨rfl, h, hs⟩
  replace H_bg := Lib.hid h
  replace H_bs := Lib.hid (show SpAt wx8 bs m m p2 from obj_step H_bs.out hs (by simp; exact HN_bs_bg.out))
  replace HS := Lib.hid (two_of (bg := 0) HS.out HB_bg.out hs)
  clear h hs
  go_wp2_with fail
  refine (left_is bs m m p2 ((l : Int) - (a : Int)) HM1.out HPK.out (by have := HM2.out; omega) HL2.out _ H_bs.out).mono ?_
  rintro e wx9 ⟨rfl, h, hs⟩
  replace H_bs := Lib.hid h
  replace H_bg := Lib.hid (show GvAt wx9 bg m m p2 0 from obj_step H_bg.out hs (by simp; exact HN_bs_bg.out.symm))
  replace HS := Lib.hid (two_of (bg := 0) HS.out HB_bs.out hs)
  clear h hs
  go_wp2_with fail
  refine (held_is bg m m p2 0 ((k : Int) + (a : Int)) HM1.out (by omega) (by have := HPK.out; have := HM2.out; omega) HH2.out _ H_bg.out).mono ?_
  rintro e wx10 ⟨rfl, h, hs⟩
  replace H_bg := Lib.hid h
  replace H_bs := Lib.hid (show SpAt wx10 bs m m p2 from obj_step H_bs.out hs (by simp; exact HN_bs_bg.out))
  replace HS := Lib.hid (two_of (bg := 0) HS.out HB_bg.out hs)
  clear h hs
  go_wp2_with fail
  refine (left_is bs m m p2 ((l : Int) - (a : Int)) HM1.out HPK.out (by have := HM2.out; omega) HL2.out _ H_bs.out).mono ?_
  rintro e wx11 ⟨rfl, h, hs⟩
  replace H_bs := Lib.hid h
  replace H_bg := Lib.hid (show GvAt wx11 bg m m p2 0 from obj_step H_bg.out hs (by simp; exact HN_bs_bg.out.symm))
  replace HS := Lib.hid (two_of (bg := 0) HS.out HB_bs.out hs)
  clear h hs
  clear H_bg
  go_wp2_with fail
  refine (granted_is bs m m p2 m 24 _ T rfl HM1.out (by have := HM2.out; omega) HPK.out (by have := HM2.out; omega) HT.out HE.out HG.out _ H_bs.out).mono ?_
  rintro e wx12 ⟨rfl, h, hs⟩
  replace H_bs := Lib.hid h
  replace HS := Lib.hid (two_of (bg := 0) HS.out HB_bs.out hs)
  clear h hs
  go_wp2_with fail
  refine (left_is bs m m p2 ((l : Int) - (a : Int)) HM1.out HP3.out HG3.out HL3.out _ H_bs.out).mono ?_
  rintro e wx13 ⟨rfl, h, hs⟩
  replace H_bs := Lib.hid h
  replace HS := Lib.hid (two_of (bg := 0) HS.out HB_bs.out hs)
  clear h hs
  go_wp2_with fail
  refine (wakes_any _).mono ?_
  rintro e wx14 ⟨rfl, hs⟩
  replace H_bs := Lib.hid (show SpAt wx14 bs m m p2 from obj_step H_bs.out hs (by simp))
  replace HS := Lib.hid (HS.out.trans hs)
  clear hs
  go_wp2_with fail
  go_ret
  exact ⟨rfl, HS.out⟩

set_option maxRecDepth 100000 in
set_option maxHeartbeats 4000000 in
theorem refused_ge_ok_old (L S m k l : Nat) (a : Nat) (p2 : Nat) (T : Nat) (hm : m = L + 1) (hL : L < 256) (hk : k = m) (hS : S < 256) (hkm : k ≤ m) (hl : l = m - k) (hT : T < 18446744073709551616) (hSm : m < S) (hn : a ≤ l) (hp2 : p2 = k + a) (ht : T ≤ m) (w : World) : Calls Try.prog 5 #[.int .u8 (L : Int), .int .u8 (S : Int), .int .i64 (a : Int), .int .u64 (T : Int)] w fun e w' => e = .returned (.bool true) ∧ Step [] w w' := by
  have hm2 : m ≤ 256 := by omega
  have HM1 := Lib.hid (show 1 ≤ m by omega)
  have HM2 := Lib.hid (show m ≤ 8192 by omega)
  have em : (1 : Int) + (L : Int) = (m : Int) := by omega
  have emin : ((m : Int) < (S : Int)) = True := by simp; omega
  have HK1 := Lib.hid (show (m : Int) < 9223372036854775808 by omega)
  have HK2 := Lib.hid (show m ≤ m - 0 by omega)
  have HK := Lib.hid hkm
  have HL := Lib.hid (show ((m - k : Nat) : Int) = (l : Int) by omega)
  have HN := Lib.hid (show (a : Int) < 9223372036854775808 by omega)
  have HA8 := Lib.hid (show amt 8 (a : Int) (m - k) = 0 from amt_ok (by omega))
  have HA7 := Lib.hid (show amt 7 (a : Int) (m - k) = 0 from amt_ok (by omega))
  have HP8 := Lib.hid (show paid (a : Int) k (m - k) = p2 from (paid_ok (by omega)).trans (by omega))
  have HL2 := Lib.hid (show ((m - p2 : Nat) : Int) = ((l : Int) - (a : Int)) by omega)
  have HH2 := Lib.hid (show ((p2 - 0 : Nat) : Int) = ((k : Int) + (a : Int)) by omega)
  have HPK := Lib.hid (show p2 ≤ m by omega)
  have HT := Lib.hid hT
  have HE := Lib.hid (show lateE m p2 T = 0 from if_neg (by omega))
  have HG := Lib.hid (show lateG m m p2 T = m from (if_neg (by omega)).trans (by omega))
  have HP3 := Lib.hid (show p2 ≤ m by omega)
  have HG3 := Lib.hid (show m < 4611686018427387904 by omega)
  have HL3 := Lib.hid (show ((m - p2 : Nat) : Int) = ((l : Int) - (a : Int)) by omega)
  have t3 : ((l : Int) < (a : Int)) = False := by simp; omega
  have t4 : ((a : Int) ≤ (l : Int)) = True := by simp; omega
  have t1 : ((a : Int) < 0) = False := by simp
  have t2 : (0 ≤ (a : Int)) = True := by simp
  have w1 : (m : Int) - ((l : Int) - (a : Int)) = ((k : Int) + (a : Int)) := by omega
  have w2 : IntKind.u64.wrap ((k : Int) + (a : Int)) = ((k : Int) + (a : Int)) := by rw [IntKind.wrap_u64]; omega
  have w3 : IntKind.u64.wrap (((k : Int) + (a : Int)) + (m : Int)) = ((k : Int) + (a : Int)) + (m : Int) := by rw [IntKind.wrap_u64]; omega
  have w4 : IntKind.u64.wrap (m : Int) = (m : Int) := by rw [IntKind.wrap_u64]; omega
  have t5 : (((k : Int) + (a : Int)) + (m : Int) < (T : Int)) = False := by simp; omega
  have t6 : ((T : Int) ≤ (m : Int)) = True := by simp; omega
  have w6 : IntKind.i64.wrap ((k : Int) + (a : Int)) = (k : Int) + (a : Int) := by rw [IntKind.wrap_i64]; omega
  have w7 : IntKind.i64.wrap ((l : Int) - (a : Int)) = (l : Int) - (a : Int) := by rw [IntKind.wrap_i64]; omega
  have HH := Lib.hid (show m = k by omega)
  clear hm hkm hl hT hSm ht hn hp2 hk
  go_enter Try.func5, Try.ntmps5
  go_wp2_with fail
  refine (newSp_ok m HM1.out HM2.out _).mono ?_
  rintro e wx1 ⟨bs, rfl, hb, h, hs⟩
  have HB_bs := Lib.hid (show w.heap.size ≤ bs from hb)
  have H_bs := Lib.hid h
  have HS := Lib.hid hs
  clear h hb hs
  go_wp2_with fail
  refine (newGv_ok m HM1.out HM2.out _).mono ?_
  rintro e wx2 ⟨bg, rfl, hb, h, hs⟩
  have HN_bs_bg := Lib.hid (show bs ≠ bg by have := heap_lt H_bs.out; omega)
  have HB_bg := Lib.hid (show w.heap.size ≤ bg from Nat.le_trans HS.out.size hb)
  replace H_bs := Lib.hid (show SpAt wx2 bs m m 0 from obj_step H_bs.out hs (by simp))
  have H_bg := Lib.hid h
  replace HS := Lib.hid (HS.out.trans hs)
  clear h hb hs
  go_wp2_with fail
  refine (spend_is bs m m 0 k (m : Int) 0 HK1.out HM1.out (by omega) (by have := HM2.out; omega) (amt_ok HK2.out) (by rw [paid_ok HK2.out]; have := HH.out; omega) _ H_bs.out).mono ?_
  rintro e wx3 ⟨rfl, h, hs⟩
  replace H_bs := Lib.hid h
  replace H_bg := Lib.hid (show GvAt wx3 bg m m 0 0 from obj_step H_bg.out hs (by simp; exact HN_bs_bg.out.symm))
  replace HS := Lib.hid (two_of (bg := 0) HS.out HB_bs.out hs)
  clear h hs
  go_wp2_with fail
  refine (take_is bg m m 0 0 k (m : Int) 0 HK1.out HM1.out (by omega) (by have := HM2.out; omega) (amt_ok HK2.out) (by rw [paid_ok HK2.out]; have := HH.out; omega) _ H_bg.out).mono ?_
  rintro e wx4 ⟨rfl, h, hs⟩
  replace H_bg := Lib.hid h
  replace H_bs := Lib.hid (show SpAt wx4 bs m m k from obj_step H_bs.out hs (by simp; exact HN_bs_bg.out))
  replace HS := Lib.hid (two_of (bg := 0) HS.out HB_bg.out hs)
  clear h hs
  go_wp2_with fail
  refine (left_is bs m m k (l : Int) HM1.out HK.out (by have := HM2.out; omega) HL.out _ H_bs.out).mono ?_
  rintro e wx5 ⟨rfl, h, hs⟩
  replace H_bs := Lib.hid h
  replace H_bg := Lib.hid (show GvAt wx5 bg m m k 0 from obj_step H_bg.out hs (by simp; exact HN_bs_bg.out.symm))
  replace HS := Lib.hid (two_of (bg := 0) HS.out HB_bs.out hs)
  clear h hs
  go_wp2_with fail
  refine (held_is bg m m k 0 (k : Int) HM1.out (by omega) (by have := HK.out; have := HM2.out; omega) (by omega) _ H_bg.out).mono ?_
  rintro e wx6 ⟨rfl, h, hs⟩
  replace H_bg := Lib.hid h
  replace H_bs := Lib.hid (show SpAt wx6 bs m m k from obj_step H_bs.out hs (by simp; exact HN_bs_bg.out))
  replace HS := Lib.hid (two_of (bg := 0) HS.out HB_bg.out hs)
  clear h hs
  go_wp2_with fail
  refine (spend_is bs m m k p2 (a : Int) 0 HN.out HM1.out HK.out (by have := HM2.out; omega) HA8.out HP8.out _ H_bs.out).mono ?_
  rintro e wx7 ⟨rfl, h, hs⟩
  replace H_bs := Lib.hid h
  replace H_bg := Lib.hid (show GvAt wx7 bg m m k 0 from obj_step H_bg.out hs (by simp; exact HN_bs_bg.out.symm))
  replace HS := Lib.hid (two_of (bg := 0) HS.out HB_bs.out hs)
  clear h hs
  go_wp2_with fail
  refine (take_is bg m m k 0 p2 (a : Int) 0 HN.out HM1.out HK.out (by have := HM2.out; omega) HA7.out HP8.out _ H_bg.out).mono ?_
  rintro e wx8 ⟨rfl, h, hs⟩
  replace H_bg := Lib.hid h
  replace H_bs := Lib.hid (show SpAt wx8 bs m m p2 from obj_step H_bs.out hs (by simp; exact HN_bs_bg.out))
  replace HS := Lib.hid (two_of (bg := 0) HS.out HB_bg.out hs)
  clear h hs
  go_wp2_with fail
  refine (left_is bs m m p2 ((l : Int) - (a : Int)) HM1.out HPK.out (by have := HM2.out; omega) HL2.out _ H_bs.out).mono ?_
  rintro e wx9 ⟨rfl, h, hs⟩
  replace H_bs := Lib.hid h
  replace H_bg := Lib.hid (show GvAt wx9 bg m m p2 0 from obj_step H_bg.out hs (by simp; exact HN_bs_bg.out.symm))
  replace HS := Lib.hid (two_of (bg := 0) HS.out HB_bs.out hs)
  clear h hs
  go_wp2_with fail
  refine (held_is bg m m p2 0 ((k : Int) + (a : Int)) HM1.out (by omega) (by have := HPK.out; have := HM2.out; omega) HH2.out _ H_bg.out).mono ?_
  rintro e wx10 ⟨rfl, h, hs⟩
  replace H_bg := Lib.hid h
  replace H_bs := Lib.hid (show SpAt wx10 bs m m p2 from obj_step H_bs.out hs (by simp; exact HN_bs_bg.out))
  replace HS := Lib.hid (two_of (bg := 0) HS.out HB_bg.out hs)
  clear h hs
  go_wp2_with fail
  refine (left_is bs m m p2 ((l : Int) - (a : Int)) HM1.out HPK.out (by have := HM2.out; omega) HL2.out _ H_bs.out).mono ?_
  rintro e wx11 ⟨rfl, h, hs⟩
  replace H_bs := Lib.hid h
  replace H_bg := Lib.hid (show GvAt wx11 bg m m p2 0 from obj_step H_bg.out hs (by simp; exact HN_bs_bg.out.symm))
  replace HS := Lib.hid (two_of (bg := 0) HS.out HB_bs.out hs)
  clear h hs
  clear H_bg
  go_wp2_with fail
  refine (granted_is bs m m p2 m 0 _ T rfl HM1.out (by have := HM2.out; omega) HPK.out (by have := HM2.out; omega) HT.out HE.out HG.out _ H_bs.out).mono ?_
  rintro e wx12 ⟨rfl, h, hs⟩
  replace H_bs := Lib.hid h
  replace HS := Lib.hid (two_of (bg := 0) HS.out HB_bs.out hs)
  clear h hs
  go_wp2_with fail
  refine (left_is bs m m p2 ((l : Int) - (a : Int)) HM1.out HP3.out HG3.out HL3.out _ H_bs.out).mono ?_
  rintro e wx13 ⟨rfl, h, hs⟩
  replace H_bs := Lib.hid h
  replace HS := Lib.hid (two_of (bg := 0) HS.out HB_bs.out hs)
  clear h hs
  go_wp2_with fail
  refine (wakes_any _).mono ?_
  rintro e wx14 ⟨rfl, hs⟩
  replace H_bs := Lib.hid (show SpAt wx14 bs m m p2 from obj_step H_bs.out hs (by simp))
  replace HS := Lib.hid (HS.out.trans hs)
  clear hs
  go_wp2_with fail
  go_ret
  exact ⟨rfl, HS.out⟩

set_option maxRecDepth 100000 in
set_option maxHeartbeats 4000000 in
theorem refused_ge_ok_new (L S m k l : Nat) (a : Nat) (p2 : Nat) (T : Nat) (hm : m = L + 1) (hL : L < 256) (hk : k = m) (hS : S < 256) (hkm : k ≤ m) (hl : l = m - k) (hT : T < 18446744073709551616) (hSm : m < S) (hn : a ≤ l) (hp2 : p2 = k + a) (ht : m < T) (ht2 : T ≤ p2 + m) (w : World) : Calls Try.prog 5 #[.int .u8 (L : Int), .int .u8 (S : Int), .int .i64 (a : Int), .int .u64 (T : Int)] w fun e w' => e = .returned (.bool true) ∧ Step [] w w' := by
  have hm2 : m ≤ 256 := by omega
  have HM1 := Lib.hid (show 1 ≤ m by omega)
  have HM2 := Lib.hid (show m ≤ 8192 by omega)
  have em : (1 : Int) + (L : Int) = (m : Int) := by omega
  have emin : ((m : Int) < (S : Int)) = True := by simp; omega
  have HK1 := Lib.hid (show (m : Int) < 9223372036854775808 by omega)
  have HK2 := Lib.hid (show m ≤ m - 0 by omega)
  have HK := Lib.hid hkm
  have HL := Lib.hid (show ((m - k : Nat) : Int) = (l : Int) by omega)
  have HN := Lib.hid (show (a : Int) < 9223372036854775808 by omega)
  have HA8 := Lib.hid (show amt 8 (a : Int) (m - k) = 0 from amt_ok (by omega))
  have HA7 := Lib.hid (show amt 7 (a : Int) (m - k) = 0 from amt_ok (by omega))
  have HP8 := Lib.hid (show paid (a : Int) k (m - k) = p2 from (paid_ok (by omega)).trans (by omega))
  have HL2 := Lib.hid (show ((m - p2 : Nat) : Int) = ((l : Int) - (a : Int)) by omega)
  have HH2 := Lib.hid (show ((p2 - 0 : Nat) : Int) = ((k : Int) + (a : Int)) by omega)
  have HPK := Lib.hid (show p2 ≤ m by omega)
  have HT := Lib.hid hT
  have HE := Lib.hid (show lateE m p2 T = 0 from if_neg (by omega))
  have HG := Lib.hid (show lateG m m p2 T = T from (if_neg (by omega)).trans (by omega))
  have HP3 := Lib.hid (show p2 ≤ T by omega)
  have HG3 := Lib.hid (show T < 4611686018427387904 by omega)
  have HL3 := Lib.hid (show ((T - p2 : Nat) : Int) = ((T : Int) - ((k : Int) + (a : Int))) by omega)
  have t3 : ((l : Int) < (a : Int)) = False := by simp; omega
  have t4 : ((a : Int) ≤ (l : Int)) = True := by simp; omega
  have t1 : ((a : Int) < 0) = False := by simp
  have t2 : (0 ≤ (a : Int)) = True := by simp
  have w1 : (m : Int) - ((l : Int) - (a : Int)) = ((k : Int) + (a : Int)) := by omega
  have w2 : IntKind.u64.wrap ((k : Int) + (a : Int)) = ((k : Int) + (a : Int)) := by rw [IntKind.wrap_u64]; omega
  have w3 : IntKind.u64.wrap (((k : Int) + (a : Int)) + (m : Int)) = ((k : Int) + (a : Int)) + (m : Int) := by rw [IntKind.wrap_u64]; omega
  have w4 : IntKind.u64.wrap (m : Int) = (m : Int) := by rw [IntKind.wrap_u64]; omega
  have t5 : (((k : Int) + (a : Int)) + (m : Int) < (T : Int)) = False := by simp; omega
  have t6 : ((T : Int) ≤ (m : Int)) = False := by simp; omega
  have w5 : IntKind.u64.wrap ((T : Int) - ((k : Int) + (a : Int))) = (T : Int) - ((k : Int) + (a : Int)) := by rw [IntKind.wrap_u64]; omega
  have w6 : IntKind.i64.wrap ((k : Int) + (a : Int)) = (k : Int) + (a : Int) := by rw [IntKind.wrap_i64]; omega
  have w7 : IntKind.i64.wrap ((l : Int) - (a : Int)) = (l : Int) - (a : Int) := by rw [IntKind.wrap_i64]; omega
  have HH := Lib.hid (show m = k by omega)
  clear hm hkm hl hT hSm ht ht2 hn hp2 hk
  go_enter Try.func5, Try.ntmps5
  go_wp2_with fail
  refine (newSp_ok m HM1.out HM2.out _).mono ?_
  rintro e wx1 ⟨bs, rfl, hb, h, hs⟩
  have HB_bs := Lib.hid (show w.heap.size ≤ bs from hb)
  have H_bs := Lib.hid h
  have HS := Lib.hid hs
  clear h hb hs
  go_wp2_with fail
  refine (newGv_ok m HM1.out HM2.out _).mono ?_
  rintro e wx2 ⟨bg, rfl, hb, h, hs⟩
  have HN_bs_bg := Lib.hid (show bs ≠ bg by have := heap_lt H_bs.out; omega)
  have HB_bg := Lib.hid (show w.heap.size ≤ bg from Nat.le_trans HS.out.size hb)
  replace H_bs := Lib.hid (show SpAt wx2 bs m m 0 from obj_step H_bs.out hs (by simp))
  have H_bg := Lib.hid h
  replace HS := Lib.hid (HS.out.trans hs)
  clear h hb hs
  go_wp2_with fail
  refine (spend_is bs m m 0 k (m : Int) 0 HK1.out HM1.out (by omega) (by have := HM2.out; omega) (amt_ok HK2.out) (by rw [paid_ok HK2.out]; have := HH.out; omega) _ H_bs.out).mono ?_
  rintro e wx3 ⟨rfl, h, hs⟩
  replace H_bs := Lib.hid h
  replace H_bg := Lib.hid (show GvAt wx3 bg m m 0 0 from obj_step H_bg.out hs (by simp; exact HN_bs_bg.out.symm))
  replace HS := Lib.hid (two_of (bg := 0) HS.out HB_bs.out hs)
  clear h hs
  go_wp2_with fail
  refine (take_is bg m m 0 0 k (m : Int) 0 HK1.out HM1.out (by omega) (by have := HM2.out; omega) (amt_ok HK2.out) (by rw [paid_ok HK2.out]; have := HH.out; omega) _ H_bg.out).mono ?_
  rintro e wx4 ⟨rfl, h, hs⟩
  replace H_bg := Lib.hid h
  replace H_bs := Lib.hid (show SpAt wx4 bs m m k from obj_step H_bs.out hs (by simp; exact HN_bs_bg.out))
  replace HS := Lib.hid (two_of (bg := 0) HS.out HB_bg.out hs)
  clear h hs
  go_wp2_with fail
  refine (left_is bs m m k (l : Int) HM1.out HK.out (by have := HM2.out; omega) HL.out _ H_bs.out).mono ?_
  rintro e wx5 ⟨rfl, h, hs⟩
  replace H_bs := Lib.hid h
  replace H_bg := Lib.hid (show GvAt wx5 bg m m k 0 from obj_step H_bg.out hs (by simp; exact HN_bs_bg.out.symm))
  replace HS := Lib.hid (two_of (bg := 0) HS.out HB_bs.out hs)
  clear h hs
  go_wp2_with fail
  refine (held_is bg m m k 0 (k : Int) HM1.out (by omega) (by have := HK.out; have := HM2.out; omega) (by omega) _ H_bg.out).mono ?_
  rintro e wx6 ⟨rfl, h, hs⟩
  replace H_bg := Lib.hid h
  replace H_bs := Lib.hid (show SpAt wx6 bs m m k from obj_step H_bs.out hs (by simp; exact HN_bs_bg.out))
  replace HS := Lib.hid (two_of (bg := 0) HS.out HB_bg.out hs)
  clear h hs
  go_wp2_with fail
  refine (spend_is bs m m k p2 (a : Int) 0 HN.out HM1.out HK.out (by have := HM2.out; omega) HA8.out HP8.out _ H_bs.out).mono ?_
  rintro e wx7 ⟨rfl, h, hs⟩
  replace H_bs := Lib.hid h
  replace H_bg := Lib.hid (show GvAt wx7 bg m m k 0 from obj_step H_bg.out hs (by simp; exact HN_bs_bg.out.symm))
  replace HS := Lib.hid (two_of (bg := 0) HS.out HB_bs.out hs)
  clear h hs
  go_wp2_with fail
  refine (take_is bg m m k 0 p2 (a : Int) 0 HN.out HM1.out HK.out (by have := HM2.out; omega) HA7.out HP8.out _ H_bg.out).mono ?_
  rintro e wx8 ⟨rfl, h, hs⟩
  replace H_bg := Lib.hid h
  replace H_bs := Lib.hid (show SpAt wx8 bs m m p2 from obj_step H_bs.out hs (by simp; exact HN_bs_bg.out))
  replace HS := Lib.hid (two_of (bg := 0) HS.out HB_bg.out hs)
  clear h hs
  go_wp2_with fail
  refine (left_is bs m m p2 ((l : Int) - (a : Int)) HM1.out HPK.out (by have := HM2.out; omega) HL2.out _ H_bs.out).mono ?_
  rintro e wx9 ⟨rfl, h, hs⟩
  replace H_bs := Lib.hid h
  replace H_bg := Lib.hid (show GvAt wx9 bg m m p2 0 from obj_step H_bg.out hs (by simp; exact HN_bs_bg.out.symm))
  replace HS := Lib.hid (two_of (bg := 0) HS.out HB_bs.out hs)
  clear h hs
  go_wp2_with fail
  refine (held_is bg m m p2 0 ((k : Int) + (a : Int)) HM1.out (by omega) (by have := HPK.out; have := HM2.out; omega) HH2.out _ H_bg.out).mono ?_
  rintro e wx10 ⟨rfl, h, hs⟩
  replace H_bg := Lib.hid h
  replace H_bs := Lib.hid (show SpAt wx10 bs m m p2 from obj_step H_bs.out hs (by simp; exact HN_bs_bg.out))
  replace HS := Lib.hid (two_of (bg := 0) HS.out HB_bg.out hs)
  clear h hs
  go_wp2_with fail
  refine (left_is bs m m p2 ((l : Int) - (a : Int)) HM1.out HPK.out (by have := HM2.out; omega) HL2.out _ H_bs.out).mono ?_
  rintro e wx11 ⟨rfl, h, hs⟩
  replace H_bs := Lib.hid h
  replace H_bg := Lib.hid (show GvAt wx11 bg m m p2 0 from obj_step H_bg.out hs (by simp; exact HN_bs_bg.out.symm))
  replace HS := Lib.hid (two_of (bg := 0) HS.out HB_bs.out hs)
  clear h hs
  clear H_bg
  go_wp2_with fail
  refine (granted_is bs m m p2 T 0 _ T rfl HM1.out (by have := HM2.out; omega) HPK.out (by have := HM2.out; omega) HT.out HE.out HG.out _ H_bs.out).mono ?_
  rintro e wx12 ⟨rfl, h, hs⟩
  replace H_bs := Lib.hid h
  replace HS := Lib.hid (two_of (bg := 0) HS.out HB_bs.out hs)
  clear h hs
  go_wp2_with fail
  refine (left_is bs m T p2 ((T : Int) - ((k : Int) + (a : Int))) HM1.out HP3.out HG3.out HL3.out _ H_bs.out).mono ?_
  rintro e wx13 ⟨rfl, h, hs⟩
  replace H_bs := Lib.hid h
  replace HS := Lib.hid (two_of (bg := 0) HS.out HB_bs.out hs)
  clear h hs
  go_wp2_with fail
  refine (wakes_any _).mono ?_
  rintro e wx14 ⟨rfl, hs⟩
  replace H_bs := Lib.hid (show SpAt wx14 bs m T p2 from obj_step H_bs.out hs (by simp))
  replace HS := Lib.hid (HS.out.trans hs)
  clear hs
  go_wp2_with fail
  go_ret
  exact ⟨rfl, HS.out⟩

end Go.Proofs.Ytnomnhlfenhjdaa
