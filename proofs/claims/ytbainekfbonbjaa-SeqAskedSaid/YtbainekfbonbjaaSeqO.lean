import Derived.Test.YtbainekfbonbjaaSeqN
import Derived.OwnWalkIn
import Derived.TacticsInMore
import Derived.LoopNIn
import Derived.LoopIn
import Derived.Deep.QuietTactic
import Derived.BigQuiet
import Derived.Maps.OwnIn
import Derived.Laws.BitsAllLaws
namespace Go.Proofs.Ytbainekfbonbjaa
open Go.RowKit Go.Shelf
set_option linter.unusedVariables false
attribute [local go_sem] Oper.semAt_some

def bitAt (bits d : Nat) : Bool := decide (bits / 2 ^ (d % 64) % 2 = 1)
theorem bit_and (bits m : Nat) (hb : bits < 18446744073709551616) : Go.bits BinOp.and IntKind.u64 ((bits : Int) / 2 ^ m) 1 = ((bits / 2 ^ m % 2 : Nat) : Int) := by
  have e : ((bits : Int) / 2 ^ m) = ((bits / 2 ^ m : Nat) : Int) := by push_cast; rfl
  have hlt : bits / 2 ^ m < 18446744073709551616 := Nat.lt_of_le_of_lt (Nat.div_le_self _ _) hb
  rw [e, show (1 : Int) = ((1 : Nat) : Int) from rfl, u64_and_nat _ _ hlt (by omega), Nat.and_one_is_mod]
theorem bit_one (bits d : Nat) (hb : bits < 18446744073709551616) : (Go.bits BinOp.and IntKind.u64 ((bits : Int) / 2 ^ (d % 64)) 1 == 1) = bitAt bits d := by
  rw [bit_and bits _ hb]
  unfold bitAt
  generalize hr : bits / 2 ^ (d % 64) % 2 = r
  have h2 : r < 2 := by rw [← hr]; exact Nat.mod_lt _ (by omega)
  clear hr
  rw [Bool.eq_iff_iff]; simp; omega
theorem bit_zero (bits d : Nat) (hb : bits < 18446744073709551616) : (Go.bits BinOp.and IntKind.u64 ((bits : Int) / 2 ^ (d % 64)) 1 == 0) = !bitAt bits d := by
  rw [bit_and bits _ hb]
  unfold bitAt
  generalize hr : bits / 2 ^ (d % 64) % 2 = r
  have h2 : r < 2 := by rw [← hr]; exact Nat.mod_lt _ (by omega)
  clear hr
  rw [Bool.eq_iff_iff]; simp; omega
/-- The slice variable in block b holds zs now, in the row that it had or in a new one. -/
def Turned (base b : Nat) (zs : List Nat) (v : Value) (w W : World) : Prop := ∃ v', Boxed W b 26 v' ∧ OwnU base W v' zs ∧ (v'.ownBlock = v.ownBlock ∨ ∃ g, v'.ownBlock = some g ∧ w.heap.size ≤ g)

theorem boxed_beside {W W' : World} {base b b4 t : Nat} {v u : Value} {zs : List Nat} (h : Boxed W b t u) (hv : OwnU base W v zs) (hb : b < base) (hne : b ≠ b4) (hs : Step (b4 :: v.ownBlock.toList) W W') : Boxed W' b t u :=
  boxed_step h hs (fun hm => by
    rcases List.mem_cons.1 hm with e | e
    · exact hne e
    · have := hv.lt _ (by simpa using e); omega)

set_option maxRecDepth 100000 in
set_option maxHeartbeats 4000000 in
/-- SeqAsked's have: it keeps the number that it is asked for, and answers by a bit. -/
theorem asked_have (base b4 b1 b0 f x bits : Nat) (pre : List Nat) (v : Value) (w : World) (hf : f ≤ x) (hx : x < 4294967296) (hbits : bits < 18446744073709551616) (hl : pre.length ≤ 1000) (hbw : base ≤ w.heap.size) (h1b : b1 < base) (h0b : b0 < base) (h14 : b1 ≠ b4) (h04 : b0 ≠ b4)
    (hb4 : Boxed w b4 26 v) (hv : OwnU base w v pre) (hb1 : Boxed w b1 23 (.int .u64 (bits : Int))) (hb0 : Boxed w b0 22 (.int .u32 (f : Int))) :
    Calls Try.prog 17 #[.int .u32 (x : Int), .pointer (some ⟨b4, 0, none⟩), .pointer (some ⟨b1, 0, none⟩), .pointer (some ⟨b0, 0, none⟩)] w fun e w' => e = .returned (.bool (bitAt bits (x - f))) ∧ Turned base b4 (pre ++ [x]) v w w' ∧ Step (b4 :: v.ownBlock.toList) w w' := by
  obtain ⟨i0, hi, hz0, hz1, hz2⟩ := info_parts info22
  obtain ⟨ao, cap, rfl⟩ := ownU_slice hv
  have hb4' := hb4.cell
  have HB := Lib.hid hb4
  have HV := Lib.hid hv
  have HB1 := Lib.hid hb1
  have HB0 := Lib.hid hb0
  clear hb4 hv hb1 hb0
  go_enter Try.func17, Try.ntmps17
  go_wp2_with (at_builtin; refine wpList_append_own_at _ rfl _ _ 26 rfl base 22 i0 (.int .u32 0) 1 4 Try.underlying26 hi hz0 hz1 hz2 rfl (by decide) _ _ _ rfl (HV.out.alloc _) ⟨w.heap.size, 0, none⟩ 1 1 [.int .u32 (x : Int)] rfl rfl (cell_one_new _ _ _) (by simp [Value.oneCell']) (by unfold maxLen; omega) (by omega) (by simp; omega) ?_; intro v' w2 hown' hgrow _ hat; obtain ⟨g', cap', rfl⟩ := ownsRow_succ hown'; obtain ⟨hv1, hv2, hr2, hs2, hat2⟩ := appended HB.out (by decide) rfl rfl HV.out hown' hgrow hat; have hc1 := hv1.cell; have hf1 := hv1.frozen; have k1 := (boxed_beside HB1.out HV.out h1b h14 hs2).cell; have k0 := (boxed_beside HB0.out HV.out h0b h04 hs2).cell; have HV2 := Lib.hid hv2; have HR2 := Lib.hid hr2; have HS2 := Lib.hid hs2; have HA2 := Lib.hid hat2; clear hv1 hv2 hr2 hs2 hat2 hown' hgrow hat)
  go_ret
  exact ⟨by rw [bit_one _ _ hbits]; rfl, ⟨_, HV2.out, ownU_snoc HR2.out, HA2.out⟩, HS2.out⟩

theorem enters17 : Enters Try.prog 17 := enters_of Try.func17 (by kernel_rfl) rfl
set_option maxRecDepth 100000 in
/-- 'func(n) bool { return !have(n) }', over a have that writes. -/
theorem not_have (bh base b4 b1 b0 f x bits : Nat) (pre : List Nat) (v : Value) (w : World) (hbh : Boxed w bh 27 (.func (.func 17) #[] #[.pointer (some ⟨b4, 0, none⟩), .pointer (some ⟨b1, 0, none⟩), .pointer (some ⟨b0, 0, none⟩)])) (hf : f ≤ x) (hx : x < 4294967296) (hbits : bits < 18446744073709551616) (hl : pre.length ≤ 1000) (hbw : base ≤ w.heap.size) (h1b : b1 < base) (h0b : b0 < base) (h14 : b1 ≠ b4) (h04 : b0 ≠ b4)
    (hb4 : Boxed w b4 26 v) (hv : OwnU base w v pre) (hb1 : Boxed w b1 23 (.int .u64 (bits : Int))) (hb0 : Boxed w b0 22 (.int .u32 (f : Int))) :
    Calls Try.prog 82 #[.int .u32 (x : Int), .pointer (some ⟨bh, 0, none⟩)] w fun e w' => e = .returned (.bool (!bitAt bits (x - f))) ∧ Turned base b4 (pre ++ [x]) v w w' ∧ Step (b4 :: v.ownBlock.toList) w w' := by
  have hc := asked_have base b4 b1 b0 f x bits pre v w hf hx hbits hl hbw h1b h0b h14 h04 hb4 hv hb1 hb0
  have c1 := hbh.cell
  have es' : ∀ args w, (callFunc 17 args).run Try.prog w = .ok (.enter 17 args) w := enters17
  clear hbh hb4 hv hb1 hb0
  go_enter Try.func82, Try.ntmps82
  go_wp2_with fail
  refine hc.mono ?_
  rintro e w' ⟨rfl, hk, hs⟩
  have HK := Lib.hid hk
  have HS := Lib.hid hs
  clear hk hs hc
  go_wp2
  go_ret
  exact ⟨rfl, HK.out, HS.out⟩
end Go.Proofs.Ytbainekfbonbjaa
