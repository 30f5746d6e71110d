/- SeqMasks: what it computes is true, for every ack and mask. -/
import Derived.Test.YtbainekfbonbjaaSeqH
import Derived.OwnWalkIn
import Derived.TacticsInMore
import Derived.LoopNIn
import Derived.LoopIn
import Derived.Deep.QuietTactic
import Derived.BigQuiet
import Derived.Maps.OwnIn
namespace Go.Proofs.Ytbainekfbonbjaa
open Go.RowKit Go.Shelf
set_option linter.unusedVariables false
attribute [local go_sem] Oper.semAt_some

theorem isN_at {k : IntKind} {W : World} {p : Option Addr} {n c : Nat} {zs : List Nat} (h : IsN k W (.slice p n c) zs) {i : Nat} (hi : i < zs.length) :
    ∃ b off, p = some ⟨b, off, none⟩ ∧ W.cell? ⟨b, off + i, none⟩ = some (.int k ((zs[i]?.getD 0 : Nat) : Int)) := by
  obtain ⟨p', c', he, _, _, hc⟩ := h
  cases he
  obtain ⟨b, off, rfl, hc2⟩ := hc (by intro e; subst e; simp at hi)
  exact ⟨b, off, rfl, hc2 i hi⟩

/-! ### Plain: masks there and back -/
theorem bits_mod (ack mask : Nat) : ∀ k, bitsSum ack ((List.range' (ack + 1) k).filter (tells ack mask)) = mask % 2 ^ k
  | 0 => by simp [bitsSum, Nat.mod_one]
  | k + 1 => by
    rw [List.range'_concat, List.filter_append, Nat.one_mul]
    have e3 : tells ack mask (ack + 1 + k) = decide (mask / 2 ^ k % 2 = 1) := by
      unfold tells
      rw [show ack + 1 + k - ack - 1 = k from by omega, Bool.eq_iff_iff]; simp
    have ih := bits_mod ack mask k
    rw [Nat.mod_pow_succ]
    by_cases h : mask / 2 ^ k % 2 = 1
    · simp only [List.filter_cons, e3, h, decide_true, if_true, List.filter_nil, bitsSum_snoc, ih]
      rw [show ack + 1 + k - ack - 1 = k from by omega, Nat.mul_one]
    · have h0 : mask / 2 ^ k % 2 = 0 := by omega
      simp [e3, h0, ih]

theorem maskOf_congr {ack : Nat} {q q' : Nat → Bool} (h : ∀ x ∈ List.range' (ack + 1) (behindLen ack), q x = q' x) : maskOf ack q = maskOf ack q' := by
  unfold maskOf; rw [List.filter_congr h]
theorem maskOf_tells (ack mask : Nat) : maskOf ack (tells ack mask) = mask % 2 ^ behindLen ack := bits_mod ack mask _
theorem maskOf_told (ack mask : Nat) : maskOf ack (fun n => decide (n ∈ toldL ack mask)) = mask % 2 ^ behindLen ack := by
  rw [← maskOf_tells]
  refine maskOf_congr fun x hx => ?_
  unfold toldL
  rw [Bool.eq_iff_iff]
  simp [List.mem_filter, hx]
theorem tells_ones {ack x : Nat} (h1 : ack < x) (h2 : x ≤ ack + 32) : tells ack 4294967295 x = true := by
  unfold tells
  have h : ∀ k, k < 32 → (4294967295 / 2 ^ k % 2 == 1) = true := by decide
  exact h _ (by omega)
theorem maskOf_true (ack : Nat) : maskOf ack (fun _ => true) = 4294967295 % 2 ^ behindLen ack := by
  rw [← maskOf_tells]
  refine maskOf_congr fun x hx => ?_
  have := range'_mem hx
  have := behind_le ack
  rw [tells_ones (by omega) (by omega)]
theorem maskOf_false (ack : Nat) : maskOf ack (fun _ => false) = 0 := by unfold maskOf; rw [List.filter_eq_nil_iff.2 (by simp)]; rfl
theorem and_want (ack mask : Nat) (hm : mask < 4294967296) : (4294967295 % 2 ^ behindLen ack) &&& (mask % 2 ^ behindLen ack) = mask % 2 ^ behindLen ack := by
  rw [← Nat.and_mod_two_pow]
  congr 1
  have : (4294967295 : Nat) = 2 ^ 32 - 1 := by decide
  rw [this, Nat.and_comm, Nat.and_two_pow_sub_one_eq_mod]
  exact Nat.mod_eq_of_lt hm
theorem told_sorted (ack mask : Nat) : ∀ i, 1 ≤ i → i < (toldL ack mask).length → (toldL ack mask)[i - 1]?.getD 0 ≤ (toldL ack mask)[i]?.getD 0 := by
  intro i h1 h2
  have hp : (toldL ack mask).Pairwise (· < ·) := (range'_lt _ _).filter _
  rw [List.pairwise_iff_getElem] at hp
  have := hp (i - 1) i (by omega) h2 (by omega)
  rw [List.getElem?_eq_getElem h2, List.getElem?_eq_getElem (by omega)]
  simp; omega
theorem told_mem {ack mask x : Nat} (ha : ack < 4294967296) (h : x ∈ toldL ack mask) : Behind ack x ∧ mask / 2 ^ (x - ack - 1) % 2 = 1 := by
  unfold toldL at h
  rw [List.mem_filter] at h
  refine ⟨behind_mem ha h.1, ?_⟩
  have := h.2
  unfold tells at this
  simpa using this

theorem enters33 : Enters Try.prog 33 := enters_of Try.func33 (by kernel_rfl) rfl
theorem enters35 : Enters Try.prog 35 := enters_of Try.func35 (by kernel_rfl) rfl
theorem enters36 : Enters Try.prog 36 := enters_of Try.func36 (by kernel_rfl) rfl

theorem contains33_asks (bt : Nat) (v : Value) (xs : List Nat) (D : Nat → Prop) : Asks 33 #[.pointer (some ⟨bt, 0, none⟩)] (fun n => decide (n ∈ xs)) D (fun W => Boxed W bt 26 v ∧ IsN .u32 W v xs) := by
  rintro x W _ ⟨hb, hv⟩
  have c1 := hb.cell
  show Calls Try.prog 33 #[.int .u32 (x : Int), .pointer (some ⟨bt, 0, none⟩)] W _
  go_enter Try.func33, Try.ntmps33
  go_wp2_with (go_at_call 25; refine (contains_any _ xs x _ hv).mono ?_; rintro e w' ⟨rfl, rfl⟩)
  go_ret
  exact ⟨rfl, Step.refl _ _⟩
theorem true35_asks (D : Nat → Prop) : Asks 35 #[] (fun _ => true) D (fun _ => True) := by
  rintro x W _ _
  show Calls Try.prog 35 #[.int .u32 (x : Int)] W _
  go_enter Try.func35, Try.ntmps35
  go_wp2
  go_ret
  exact ⟨rfl, Step.refl _ _⟩
theorem false36_asks (D : Nat → Prop) : Asks 36 #[] (fun _ => false) D (fun _ => True) := by
  rintro x W _ _
  show Calls Try.prog 36 #[.int .u32 (x : Int)] W _
  go_enter Try.func36, Try.ntmps36
  go_wp2
  go_ret
  exact ⟨rfl, Step.refl _ _⟩

set_option maxRecDepth 100000 in
set_option maxHeartbeats 2000000 in
theorem masks_walk (ack mask : Nat) (ha : ack < 4294967296) (hm : mask < 4294967296) (w : World) :
    Calls Try.prog 5 #[.int .u32 (ack : Int), .int .u32 (mask : Int)] w fun e w' => e = .returned (.bool true) ∧ Step [] w w' := by
  go_enter Try.func5, Try.ntmps5
  go_wp2_with (first | (go_at_call 29; refine (told_any _ _ _).mono ?_; rintro e w1 ⟨rfl, hw1⟩; have HW1 := Lib.hid hw1; clear hw1) | (go_at_call 26; refine (firstTold_any ack mask 40 ha hm (by omega) (by omega) w w1 HW1.out).mono ?_; rintro e w2 ⟨v, rfl, hv, hs⟩; obtain ⟨ao, cap, rfl⟩ := ownU_slice hv; have HV := Lib.hid hv; have HS := Lib.hid hs; clear hv hs HW1))
  have bt := Boxed.new w2 26 (.slice ao (toldL ack mask).length cap)
  have s3 : Step [] w2 (w2.alloc (.cells #[.slice ao (toldL ack mask).length cap] 26)) := Step.alloc _ _
  generalize hw3 : w2.alloc (.cells #[.slice ao (toldL ack mask).length cap] 26) = w3 at *
  have hz3 : w3.heap.size = w2.heap.size + 1 := by rw [← hw3]; simp
  clear hw3
  have hv3 : IsN .u32 w3 (.slice ao (toldL ack mask).length cap) (toldL ack mask) := isN_step (S := []) HV.out.isN s3
  have S3 := Lib.hid (HS.out.trans s3)
  have BT := Lib.hid bt
  have HV3 := Lib.hid hv3
  clear bt s3 hv3 HV HS
  have hbk := maskOf_told ack mask
  have hwl : mask % 2 ^ behindLen ack ≤ mask := Nat.mod_le _ _
  generalize hwt : mask % 2 ^ behindLen ack = want at *
  have HWT := Lib.hid hwt
  have HBK := Lib.hid hbk
  clear hwt hbk
  go_wp2_with fail
  refine (mask_any ack ha enters33 _ (contains33_asks w2.heap.size (.slice ao (toldL ack mask).length cap) (toldL ack mask) (Behind ack)) w3 ?_).mono ?_
  · intro W' hs
    exact ⟨boxed_step BT.out hs (by simp), isN_step (S := []) HV3.out hs⟩
  rintro e w4 ⟨rfl, hs4⟩
  rw [HBK.out]
  have bt4 := (boxed_step BT.out hs4 (by simp)).cell
  have HV4 := Lib.hid (isN_step (S := []) HV3.out hs4)
  have S4 := Lib.hid (S3.out.trans hs4)
  clear hs4 BT HV3 S3 HBK
  have hlen := toldL_len ack mask
  have hand : bits BinOp.and IntKind.u32 (maskOf ack (fun _ => true) : Int) (want : Int) = (want : Int) := by
    have hlt := maskOf_lt ack (fun _ => true)
    rw [u32_and_nat _ _ hlt (by omega), maskOf_true, ← HWT.out, and_want ack mask hm]
  have hmem : Hid (∀ k, k < (toldL ack mask).length → Behind ack ((toldL ack mask)[k]?.getD 0) ∧ mask / 2 ^ ((toldL ack mask)[k]?.getD 0 - ack - 1) % 2 = 1) := fun k hk =>
    told_mem ha (by rw [List.getElem?_eq_getElem hk]; simp)
  have hsort := Lib.hid (told_sorted ack mask)
  generalize hT : toldL ack mask = T at *
  generalize hA : maskOf ack (fun _ => true) = A at *
  have HA := Lib.hid hA
  have HAND := Lib.hid hand
  clear hT hA hand
  have fin : ∀ (W : World) (K : Prop), (Step [] w W → K) → Step [] w W → K := fun _ _ h => h
  clear fin
  by_cases hl : 4294967295 - ack < 32
  · have hl1 : ((4294967295 - (ack : Int)) < 32) = True := by simp; omega
    have he : bits BinOp.and IntKind.u32 (mask : Int) ((2 ^ (4294967295 - ack) - 1) % 4294967296) = (want : Int) := by
      have hb : behindLen ack = 4294967295 - ack := by unfold behindLen; omega
      have hp : 2 ^ (4294967295 - ack) ≤ 4294967296 := Nat.le_trans (Nat.pow_le_pow_right (by omega) (show 4294967295 - ack ≤ 32 by omega)) (by omega)
      have hp1 := Nat.two_pow_pos (4294967295 - ack)
      have e1 : ((2 : Int) ^ (4294967295 - ack) - 1) % 4294967296 = ((2 ^ (4294967295 - ack) - 1 : Nat) : Int) := by
        have : ((2 : Int) ^ (4294967295 - ack)) = ((2 ^ (4294967295 - ack) : Nat) : Int) := by push_cast; rfl
        rw [this]; omega
      rw [e1, u32_and_nat _ _ hm (by omega), Nat.and_two_pow_sub_one_eq_mod, ← HWT.out, hb]
    go_wp2_with (go_at_call 34; refine (isSorted_any _ T _ HV4.out hsort.out).mono ?_; rintro e w5 ⟨rfl, n5, rfl⟩)
    clear hl
    clear hl1
    go_loop [10, 45] (fun x i => ∃ k : Nat, k ≤ T.length ∧ i = .int .i64 k) (fun x i => T.length - (intOf i).toNat)
    case atStart => exact ⟨0, by omega, rfl⟩
    case round =>
      obtain ⟨k, hk, rfl⟩ := hrel
      by_cases hlt : k < T.length
      · obtain ⟨b1, o1, rfl, e1⟩ := isN_at HV4.out hlt
        obtain ⟨⟨m1, m2, m3⟩, m4⟩ := hmem.out k hlt
        generalize T[k]?.getD 0 = x at *
        have hz : (bits BinOp.and IntKind.u32 ((mask : Int) / 2 ^ (x - ack - 1)) 1 == 0) = false := by
          have e : ((mask : Int) / 2 ^ (x - ack - 1)) = ((mask / 2 ^ (x - ack - 1) : Nat) : Int) := by push_cast; rfl
          have hl' : mask / 2 ^ (x - ack - 1) < 4294967296 := Nat.lt_of_le_of_lt (Nat.div_le_self _ _) hm
          rw [e, show (1 : Int) = ((1 : Nat) : Int) from rfl, u32_and_nat _ _ hl' (by omega), Nat.and_one_is_mod, m4]; rfl
        clear m4 he
        go_wp2
        go_round
        case rel => exact ⟨k + 1, by omega, by go_num⟩
        case measure => simp [intOf]; omega
      · clear he
        go_wp2_with fail
        refine (mask_any ack ha enters35 _ (true35_asks (Behind ack)) _ (fun _ _ => trivial)).mono ?_
        rintro e w6 ⟨rfl, hs6⟩
        rw [HA.out]
        have hand := HAND.out
        have HS6 := Lib.hid hs6
        clear hs6 HA HAND
        go_wp2_with fail
        refine (mask_any ack ha enters36 _ (false36_asks (Behind ack)) _ (fun _ _ => trivial)).mono ?_
        rintro e w7 ⟨rfl, hs7⟩
        rw [maskOf_false]
        have HS7 := Lib.hid hs7
        clear hs7
        go_wp2_with (go_at_call 23; refine (wakes_any _).mono ?_; rintro e w8 ⟨rfl, hs8⟩; have HS8 := Lib.hid hs8; clear hs8)
        go_ret
        exact ⟨rfl, (((S4.out.trans (Step.drewN _ _)).trans HS6.out).trans HS7.out).trans HS8.out⟩
  · have hl1 : ((4294967295 - (ack : Int)) < 32) = False := by simp; omega
    have hwm : mask = want := by
      have hb : behindLen ack = 32 := by unfold behindLen; omega
      rw [← HWT.out, hb]; exact (Nat.mod_eq_of_lt hm).symm
    clear hl
    subst hwm
    have he := trivial
    go_wp2_with (go_at_call 34; refine (isSorted_any _ T _ HV4.out hsort.out).mono ?_; rintro e w5 ⟨rfl, n5, rfl⟩)
    clear hl1
    go_loop [10, 45] (fun x i => ∃ k : Nat, k ≤ T.length ∧ i = .int .i64 k) (fun x i => T.length - (intOf i).toNat)
    case atStart => exact ⟨0, by omega, rfl⟩
    case round =>
      obtain ⟨k, hk, rfl⟩ := hrel
      by_cases hlt : k < T.length
      · obtain ⟨b1, o1, rfl, e1⟩ := isN_at HV4.out hlt
        obtain ⟨⟨m1, m2, m3⟩, m4⟩ := hmem.out k hlt
        generalize T[k]?.getD 0 = x at *
        have hz : (bits BinOp.and IntKind.u32 ((mask : Int) / 2 ^ (x - ack - 1)) 1 == 0) = false := by
          have e : ((mask : Int) / 2 ^ (x - ack - 1)) = ((mask / 2 ^ (x - ack - 1) : Nat) : Int) := by push_cast; rfl
          have hl' : mask / 2 ^ (x - ack - 1) < 4294967296 := Nat.lt_of_le_of_lt (Nat.div_le_self _ _) hm
          rw [e, show (1 : Int) = ((1 : Nat) : Int) from rfl, u32_and_nat _ _ hl' (by omega), Nat.and_one_is_mod, m4]; rfl
        clear m4 he
        go_wp2
        go_round
        case rel => exact ⟨k + 1, by omega, by go_num⟩
        case measure => simp [intOf]; omega
      · clear he
        go_wp2_with fail
        refine (mask_any ack ha enters35 _ (true35_asks (Behind ack)) _ (fun _ _ => trivial)).mono ?_
        rintro e w6 ⟨rfl, hs6⟩
        rw [HA.out]
        have hand := HAND.out
        have HS6 := Lib.hid hs6
        clear hs6 HA HAND
        go_wp2_with fail
        refine (mask_any ack ha enters36 _ (false36_asks (Behind ack)) _ (fun _ _ => trivial)).mono ?_
        rintro e w7 ⟨rfl, hs7⟩
        rw [maskOf_false]
        have HS7 := Lib.hid hs7
        clear hs7
        go_wp2_with (go_at_call 23; refine (wakes_any _).mono ?_; rintro e w8 ⟨rfl, hs8⟩; have HS8 := Lib.hid hs8; clear hs8)
        go_ret
        exact ⟨rfl, (((S4.out.trans (Step.drewN _ _)).trans HS6.out).trans HS7.out).trans HS8.out⟩
end Go.Proofs.Ytbainekfbonbjaa
