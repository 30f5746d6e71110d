/- WindowKnown: its walk. No statement is proved here; nothing is assumed. -/
import Derived.Test.YtbainekfbonbjaaWinK
namespace Go.Proofs.Ytbainekfbonbjaa
open Go.RowKit Go.Shelf
set_option linter.unusedVariables false
set_option linter.unusedSimpArgs false
attribute [local go_sem] Oper.semAt_some

def limT (j : Nat) : Nat := [0, 2147483649, 1, 1, 1].getD j 0
def firT (j : Nat) : Nat := [1, 1, 0, 2, 1].getD j 0
def mosT (j : Nat) : Nat := [1, 1, 1, 1, 1099511627777].getD j 0
def litA : Array Value := #[.int .u32 0, .int .i64 1, .int .i64 1, .int .u32 2147483649, .int .i64 1, .int .i64 1, .int .u32 1, .int .i64 0, .int .i64 1, .int .u32 1, .int .i64 2, .int .i64 1, .int .u32 1, .int .i64 1, .int .i64 1099511627777]
theorem litA_at (j : Nat) (hj : j < 5) : litA[j * 3]? = some (.int .u32 (limT j : Int)) ∧ litA[j * 3 + 1]? = some (.int .i64 (firT j : Int)) ∧ litA[j * 3 + 2]? = some (.int .i64 (mosT j : Int)) := by
  match j with
  | 0 => exact ⟨rfl, rfl, rfl⟩
  | 1 => exact ⟨rfl, rfl, rfl⟩
  | 2 => exact ⟨rfl, rfl, rfl⟩
  | 3 => exact ⟨rfl, rfl, rfl⟩
  | 4 => exact ⟨rfl, rfl, rfl⟩
  | j + 5 => omega
theorem lit_bad (j : Nat) (hj : j < 5) : (limT j < 1 ∨ 2147483648 < limT j) ∨ (firT j : Int) < 1 ∨ (mosT j : Int) < (firT j : Int) ∨ 1099511627776 < (mosT j : Int) := by
  match j with
  | 0 => exact .inl (.inl (by decide))
  | 1 => exact .inl (.inr (by decide))
  | 2 => exact .inr (.inl (by decide))
  | 3 => exact .inr (.inr (.inl (by decide)))
  | 4 => exact .inr (.inr (.inr (by decide)))
  | j + 5 => omega
theorem lit12_at (i : Nat) (hi : i < 12) : (#[.int .u32 2, .int .u32 4, .int .u32 5, .int .u32 7, .int .u32 8, .int .u32 9, .int .u32 10, .int .u32 11, .int .u32 12, .int .u32 13, .int .u32 14, .int .u32 15] : Array Value)[i]? = some (.int .u32 ((left12[i]?.getD 0 : Nat) : Int)) := by
  match i with
  | 0 => rfl
  | 1 => rfl
  | 2 => rfl
  | 3 => rfl
  | 4 => rfl
  | 5 => rfl
  | 6 => rfl
  | 7 => rfl
  | 8 => rfl
  | 9 => rfl
  | 10 => rfl
  | 11 => rfl
  | i + 12 => omega
set_option maxRecDepth 100000 in
set_option maxHeartbeats 16000000 in
theorem known_walk6 (w : World) : Calls Try.prog 10 #[] w fun e w' => e = .returned (.bool true) ∧ Step [] w w' := by
  go_enter Try.func10, Try.ntmps10
  go_upto_region 3 with fail
  have o0 : (w.alloc zeroObj6).heap[w.heap.size]? = some zeroObj6 := by rw [heap_alloc_get, if_pos rfl]
  have hs0 : Step [] w (w.alloc zeroObj6) := Step.alloc _ _
  obtain ⟨b0, hb0⟩ : ∃ b0, b0 = w.heap.size := ⟨_, rfl⟩
  obtain ⟨w0, hw0⟩ : ∃ w0, w0 = w.alloc zeroObj6 := ⟨_, rfl⟩
  rw [← hb0, ← hw0] at o0
  rw [← hw0] at hs0
  have H0 := Lib.hid (And.intro o0 hs0)
  unfold zeroObj6 at hw0
  rw [← hb0, ← hw0]
  clear o0 hs0 hb0 hw0
  go_wp2_with fail
  refine (put6_nil _ 0 _).mono ?_
  rintro e w' ⟨rfl, hw⟩
  cases hw
  go_wp2_with fail
  refine (put6_zero b0 _ 0 _ H0.out.1).mono ?_
  rintro e w' ⟨rfl, hw⟩
  cases hw
  go_wp2_with fail
  refine (wakes6_nil _).mono ?_
  rintro e w' ⟨rfl, hw⟩
  cases hw
  go_wp2_with fail
  refine (due6_nil 0 _).mono ?_
  rintro e w' ⟨rfl, hw⟩
  cases hw
  go_wp2_with fail
  refine (ack6_zero b0 1 1 _ H0.out.1).mono ?_
  rintro e w1 ⟨rfl, hs1⟩
  have H1 := Lib.hid (And.intro (obj_step H0.out.1 hs1 (by simp)) (H0.out.2.trans hs1))
  clear hs1
  go_wp2_with fail
  refine (len6_nil _).mono ?_
  rintro e w' ⟨rfl, hw⟩
  cases hw
  go_wp2_with fail
  refine (bytes6_zero b0 _ H1.out.1).mono ?_
  rintro e w' ⟨rfl, hw⟩
  cases hw
  go_wp2_with fail
  refine (next6_nil _).mono ?_
  rintro e w' ⟨rfl, hw⟩
  cases hw
  go_wp2_with fail
  refine (left6_zero b0 _ H1.out.1).mono ?_
  rintro e w' ⟨rfl, hw⟩
  cases hw
  go_wp2_with fail
  refine (copy6_nil _).mono ?_
  rintro e w' ⟨rfl, hw⟩
  cases hw
  clear H0
  go_wp2_with fail
  obtain ⟨bl, hbl⟩ : ∃ bl, bl = w1.heap.size := ⟨_, rfl⟩
  have h0 : (w1.alloc (.cells litA 96)).heap[bl]? = some (.cells litA 96) ∧ Step [] w (w1.alloc (.cells litA 96)) := ⟨by rw [hbl, heap_alloc_get, if_pos rfl], H1.out.2.trans (Step.alloc _ _)⟩
  have H0 := Lib.hid h0
  unfold litA at H0
  rw [← hbl]
  clear h0 hbl
  go_loopw [104] (fun i wr => ∃ j : Nat, j ≤ 5 ∧ i = .int .i64 (j : Int) ∧ Hid (wr.heap[bl]? = some (.cells litA 96) ∧ Step [] w wr)) (fun i wr => 5 - (intOf i).toNat)
  case atStart => exact ⟨0, by omega, rfl, H0.out⟩
  case round =>
    clear H0 H1
    obtain ⟨j, hj, rfl, hI⟩ := hrel
    by_cases hlt : j < 5
    · have hji : (j : Int) < 5 := by omega
      obtain ⟨l1, l2, l3⟩ := litA_at j hlt
      have hbad := lit_bad j hlt
      obtain ⟨ll, hll⟩ : ∃ l, l = limT j := ⟨_, rfl⟩
      obtain ⟨ff, hff⟩ : ∃ l, l = firT j := ⟨_, rfl⟩
      obtain ⟨mm, hmm⟩ : ∃ l, l = mosT j := ⟨_, rfl⟩
      rw [← hll] at l1 hbad
      rw [← hff] at l2 hbad
      rw [← hmm] at l3 hbad
      have c0 := cells_cell hI.out.1 l1
      have c1 := cells_cell hI.out.1 l2
      have c2 := cells_cell hI.out.1 l3
      have HB := Lib.hid (new6_bad ll (ff : Int) (mm : Int) hbad)
      clear l1 l2 l3 hbad hll hff hmm
      go_wp2_with fail
      refine (HB.out _).mono ?_
      clear HB
      rintro e w3 ⟨rfl, hs3⟩
      have H3 := Lib.hid (show w3.heap[bl]? = some (.cells litA 96) ∧ Step [] w w3 from ⟨obj_step (obj_step hI.out.1 (Step.alloc (S := []) _ _) (by simp)) hs3 (by simp), (hI.out.2.trans (Step.alloc _ _)).trans hs3⟩)
      clear hs3 c0 c1 c2
      go_wp2_with fail
      go_roundw
      case rel => exact ⟨j + 1, by omega, by go_num, H3.out⟩
      case measure => simp [intOf]; omega
    · obtain rfl : j = 5 := by omega
      clear hlt
      have HI := Lib.hid hI.out.2
      clear hI
      go_wp2_with fail
      refine (new6_ok 20 5 5 (by omega) (by omega) wr).mono ?_
      rintro e w2 ⟨b, sp, bm, rfl, hW, hs2⟩
      have H2 := Lib.hid (And.intro hW (HI.out.trans hs2))
      clear hW hs2
      have hk0 : KnAt w wr.heap.size b sp bm 0 (fun _ => none) 0 w2 := ⟨[], H2.out.1, rfl, H2.out.2, HI.out.size, by have := H2.out.1.lo; have := heap_lt H2.out.1.o; omega⟩
      obtain ⟨B0, hB0⟩ : ∃ B0, B0 = wr.heap.size := ⟨_, rfl⟩
      rw [← hB0] at hk0
      have hf0 : fillG 0 = fun _ => none := by funext k; unfold fillG; rw [if_neg (by omega)]
      rw [← hf0] at hk0
      obtain ⟨w3, hmk, hs3⟩ := make257w w2
      have K0 := Lib.hid (And.intro hk0 (hk0.same hs3))
      clear hk0 hs3 hB0 hf0
      go_wp2_with fail
      refine (put6_arg H2.out.1 _ (-1) (by omega)).mono ?_
      rintro e w' ⟨rfl, hw⟩
      cases hw
      go_wp2_with fail
      refine (put6_arg H2.out.1 _ 1099511627777 (by omega)).mono ?_
      rintro e w' ⟨rfl, hw⟩
      cases hw
      go_wp2_with fail
      clear hmk
      refine (kn_long K0.out.2 _ 257 257 0 (by omega) (by omega)).mono ?_
      rintro e w' ⟨rfl, hw⟩
      cases hw
      clear H2
      go_wp2_with fail
      go_loopw [145] (fun i wx => ∃ j : Nat, j ≤ 16 ∧ i = .int .i64 (j : Int) ∧ Hid (KnAt w B0 b sp bm j (fillG j) j wx)) (fun i wx => 16 - (intOf i).toNat)
      case atStart => exact ⟨0, by omega, rfl, K0.out.2⟩
      case round =>
        clear K0
        obtain ⟨j, hj, rfl, hK⟩ := hrel
        by_cases hlt : j < 16
        · have hji : (j : Int) < 16 := by omega
          obtain ⟨w4, hmk, hs4, hr4⟩ := make2w wr
          have HP := Lib.hid (kn_put (hK.out.same hs4) hlt (by omega) (some ⟨wr.heap.size, 0, none⟩) 2 2 7 [0, 0] rfl (by simp) (by simp) hr4 (by omega))
          clear hs4 hr4
          go_wp2_with fail
          refine HP.out.mono ?_
          clear HP
          rintro e w5 ⟨rfl, hk5, _⟩
          rw [fill_next] at hk5
          have K5 := Lib.hid hk5
          clear hk5 hmk
          go_wp2_with fail
          go_roundw
          case rel => exact ⟨j + 1, by omega, by go_num, K5.out⟩
          case measure => simp [intOf]; omega
        · obtain rfl : j = 16 := by omega
          clear hlt
          go_wp2_with fail
          refine (kn_busy hK.out (by omega) none 0 0 7 (by omega) (by omega)).mono ?_
          rintro e w' ⟨rfl, hw⟩
          cases hw
          go_wp2_with fail
          refine (kn_bytes hK.out (by omega) 32 bytesK).mono ?_
          rintro e w4 ⟨rfl, hk4⟩
          have K4 := Lib.hid hk4
          clear hk4 hK
          go_wp2_with fail
          refine (kn_next K4.out).mono ?_
          rintro e w' ⟨rfl, hw⟩
          cases hw.symm
          go_wp2_with fail
          refine (kn_left K4.out 4 (by omega)).mono ?_
          rintro e w5 ⟨rfl, hk5⟩
          have K5 := Lib.hid hk5
          clear hk5 K4
          go_wp2_with fail
          refine (kn_far K5.out 17 0 (by omega)).mono ?_
          rintro e w6 ⟨rfl, hk6⟩
          have K6 := Lib.hid hk6
          clear hk6 K5
          go_wp2_with fail
          refine (kn_ack K6.out (by omega) 2 9 12 4 (by omega) (by omega) keysK1 (by omega)).mono ?_
          rintro e w7 ⟨rfl, hk7, hs7⟩
          clear hs7
          have K7 := Lib.hid (show KnAt w B0 b sp bm 16 gK1 12 w7 from hk7)
          clear hk7 K6
          go_wp2_with fail
          refine (kn_ack K7.out (by omega) 2 9 12 0 (by omega) (by omega) keysK2 (by omega)).mono ?_
          rintro e w8 ⟨rfl, hk8, hs8⟩
          clear hs8
          have K8 := Lib.hid (show KnAt w B0 b sp bm 16 gK2 12 w8 from hk8)
          clear hk8 K7
          go_wp2_with fail
          refine (kn_due K8.out (by omega) (fun k x hx => by
            have h1 := ackG_some (ackG_some hx)
            unfold fillG at h1
            split at h1
            · cases h1; decide
            · cases h1) 7 (by omega) _ dueK).mono ?_
          rintro e w9 ⟨v9, rfl, ho9, hk9⟩
          obtain ⟨q9, c9, rfl, hc9, hm9⟩ := ho9.form
          have hl12 : (left12.map fun k => (k, ([0, 0] : List Nat), 1)).length = 12 := rfl
          rw [hl12] at hc9 ho9 ⊢
          have hc9i : (c9 : Int) ≤ 9223372036854775807 := by unfold maxLen at hm9; omega
          have HW9 := Lib.hid (show w.heap.size ≤ w9.heap.size by obtain ⟨_, _, _, a1, a2, a3⟩ := hk9; omega)
          have K9 := Lib.hid (And.intro ho9 (show KnAt w B0 b sp bm 16 gK3 12 w9 from hk9))
          clear ho9 hk9 K8 hm9 hl12
          go_wp2_with fail
          go_loopw [28, 203] (fun v28 i wx => ∃ (j c : Nat) (q : Option Addr), j ≤ 12 ∧ i = .int .i64 (j : Int) ∧ v28 = .slice q j c ∧ Hid (OutAt w8.heap.size wx (.slice q9 12 c9) (left12.map fun k => (k, [0, 0], 1)) ∧ KnAt w B0 b sp bm 16 gK3 12 wx ∧ wx.ownsRow w9.heap.size 22 1 (.slice q j c) j (n32 (left12.take j)) ∧ w9.heap.size ≤ wx.heap.size)) (fun _ i wx => 12 - (intOf i).toNat)
          case atStart => exact ⟨0, 0, none, by omega, rfl, rfl, K9.out.1, K9.out.2, World.ownsRow_nil _ _ _ _, Nat.le_refl _⟩
          case round =>
            clear K9
            obtain ⟨j, c, q, hj, rfl, rfl, hK⟩ := hrel
            by_cases hlt : j < 12
            · have hji : (j : Int) < 12 := by omega
              obtain ⟨i0, hi0, hz0, hz1, hz2⟩ := info_parts info22
              obtain ⟨k, hk⟩ : ∃ k, left12[j]? = some k := ⟨_, List.getElem?_eq_getElem (show j < left12.length from hlt)⟩
              obtain ⟨g9, pq, pc, rfl, x0, x1, x2, _, hpc, hpm⟩ := hK.out.1.at (j := j) (d := (k, [0, 0], 1)) (by rw [List.getElem?_map, hk]; rfl)
              dsimp only [List.length_cons, List.length_nil, Nat.zero_add, Nat.reduceAdd] at x0 x1 x2 hpc
              have hpci : (pc : Int) ≤ 9223372036854775807 := by unfold maxLen at hpm; omega
              have HK := Lib.hid (And.intro hK.out hk)
              clear hK hk hpm
              go_wp2_with (at_builtin; refine wpList_append_own _ rfl _ _ 26 rfl w9.heap.size 22 i0 _ 1 4 Try.underlying26 hi0 hz0 hz1 hz2 rfl (by omega) (.slice q j c) j (n32 (left12.take j)) rfl ((HK.out.1.2.2.1.alloc (.cells #[.int .u32 (k : Int), .slice pq 2 pc, .int .i64 1] 81)).alloc (.cells #[.int .u32 (k : Int)] 22)) ⟨wr.heap.size + 1, 0, none⟩ 1 1 [.int .u32 (k : Int)] rfl rfl (new_cells1 (by simp)) (by simp [Value.oneCell']) (by unfold maxLen; omega) (by omega) (by have := HK.out.1.2.2.2; simp; omega) ?_; intro v' w' ho hg _; obtain ⟨q3, n3, rfl⟩ := rowForm6 ho; have HD := Lib.hid (And.intro ho hg); clear ho hg)
              go_roundw
              case rel =>
                refine ⟨j + 1, n3, q3, by omega, by go_num, rfl, ?_⟩
                obtain ⟨⟨hO, hKn, hrow, hsz⟩, hk⟩ := HK.out
                obtain ⟨W2, hW2⟩ : ∃ W2, W2 = (wr.alloc (.cells #[.int .u32 (k : Int), .slice pq 2 pc, .int .i64 1] 81)).alloc (.cells #[.int .u32 (k : Int)] 22) := ⟨_, rfl⟩
                have hs2 : Step [] wr W2 := by rw [hW2]; exact (Step.alloc _ _).trans (Step.alloc _ _)
                have hrow2 : W2.ownsRow w9.heap.size 22 1 (.slice q j c) j (n32 (left12.take j)) := row_step hrow hs2 (by simp)
                have hg := HD.out.2
                rw [← hW2] at hg
                have hty := row_type hrow2
                have hs3 : Step (Value.slice q j c).ownBlock.toList W2 w' := Step.grown hg (fun i hi => by
                  obtain ⟨_, cur, hc⟩ := hty i (by simp [hi])
                  exact ⟨.inl (by simp [hi]), fun ob hob => by rw [hc] at hob; cases hob; rfl⟩)
                refine ⟨(hO.same hs2).step hs3 (fun i hi => ?_), (hKn.same hs2).row hs3 (fun i hi => ?_), ?_, ?_⟩
                · obtain ⟨_, cur, hc⟩ := hty i hi
                  exact ⟨fun cur' hc' => (by rw [hc] at hc'; cases hc'), fun cur' hc' => (by rw [hc] at hc'; cases hc')⟩
                · obtain ⟨h1, cur, hc⟩ := hty i hi
                  refine ⟨?_, cur, hc⟩
                  have := HW9.out
                  omega
                · rw [take_snoc hk, n32_snoc]
                  exact HD.out.1
                · have := hs2.size; have := hs3.size; omega
              case measure => simp [intOf]; omega
            · obtain rfl : j = 12 := by omega
              rw [show (((12 : Nat) : Int)) = (12 : Int) from rfl]
              clear hlt
              have HR := Lib.hid (And.intro hK.out.2.1 (And.intro hK.out.2.2.1 hK.out.2.2.2))
              clear hK
              go_wp2_with fail
              go_loopw [213] (fun i wx => ∃ j : Nat, j ≤ 4 ∧ i = .int .i64 (j : Int) ∧ Hid (KnAt w B0 b sp bm (16 + j) (putK j) (12 + j) wx ∧ wx.ownsRow w9.heap.size 22 1 (.slice q 12 c) 12 (n32 left12))) (fun i wx => 4 - (intOf i).toNat)
              case atStart => exact ⟨0, by omega, rfl, HR.out.1, HR.out.2.1⟩
              case round =>
                clear HR
                obtain ⟨j, hj, rfl, hK⟩ := hrel
                by_cases hlt : j < 4
                · have hji : (j : Int) < 4 := by omega
                  have HP := Lib.hid (kn_put hK.out.1 (by omega) (by omega) none 0 0 9 [] rfl (by simp) (by simp) (.inl ⟨none, 0, rfl, rfl, fun _ => rfl, by simp [maxLen]⟩) (by omega))
                  have HK := Lib.hid hK.out
                  clear hK
                  go_wp2_with fail
                  refine HP.out.mono ?_
                  clear HP
                  rintro e w5 ⟨rfl, hk5, hs5⟩
                  have K5 := Lib.hid (And.intro (show KnAt w B0 b sp bm (16 + (j + 1)) (putK (j + 1)) (12 + (j + 1)) w5 from hk5) (HK.out.1.rowStay hs5 HK.out.2))
                  clear hk5 hs5 HK
                  go_wp2_with fail
                  go_roundw
                  case rel => exact ⟨j + 1, by omega, by go_num, K5.out⟩
                  case measure => simp [intOf]; omega
                · obtain rfl : j = 4 := by omega
                  clear hlt
                  have K0 := Lib.hid hK.out
                  clear hK
                  go_wp2_with fail
                  refine (kn_busy K0.out.1 (by omega) none 0 0 9 (by omega) (by omega)).mono ?_
                  rintro e w' ⟨rfl, hw⟩
                  cases hw
                  go_wp2_with fail
                  refine (kn_ack K0.out.1 (by omega) 20 0 0 16 (by omega) (by omega) keysK5 (by omega)).mono ?_
                  rintro e w4 ⟨rfl, hk4, hs4⟩
                  have K4 := Lib.hid (And.intro hk4 (K0.out.1.rowStay (hs4.mono (fun i hi _ => by simp at hi ⊢; exact .inr hi)) K0.out.2))
                  clear hk4 hs4 K0
                  go_wp2_with fail
                  refine (kn_full K4.out.1 (by omega) rfl none 0 0 9 (by omega) (by omega)).mono ?_
                  rintro e w5 ⟨rfl, hk5, hs5⟩
                  have K5 := Lib.hid (And.intro hk5 (row_step K4.out.2 hs5 (by simp)))
                  clear hk5 hs5 K4
                  obtain ⟨bq, hbq⟩ : ∃ bq, bq = w5.heap.size := ⟨_, rfl⟩
                  have hs6 : Step [] w5 (w5.alloc (.cells #[.int .u32 2, .int .u32 4, .int .u32 5, .int .u32 7, .int .u32 8, .int .u32 9, .int .u32 10, .int .u32 11, .int .u32 12, .int .u32 13, .int .u32 14, .int .u32 15] 22)) := Step.alloc _ _
                  have hE := equal_any (.slice q 12 c) (.slice (some ⟨w5.heap.size, 0, none⟩) 12 12) left12 left12 (w5.alloc (.cells #[.int .u32 2, .int .u32 4, .int .u32 5, .int .u32 7, .int .u32 8, .int .u32 9, .int .u32 10, .int .u32 11, .int .u32 12, .int .u32 13, .int .u32 14, .int .u32 15] 22))
                    (row_isN (row_step K5.out.2 hs6 (by simp)))
                    ⟨_, 12, rfl, Nat.le_refl _, by simp [maxLen], fun _ => ⟨w5.heap.size, 0, rfl, fun i hi => by
                      have h12 : i < 12 := hi
                      refine cells_cell (by rw [heap_alloc_get, if_pos rfl]) ?_
                      rw [Nat.zero_add]
                      exact lit12_at i h12⟩⟩
                  rw [show decide (left12 = left12) = true from rfl] at hE
                  have HE := Lib.hid hE
                  have K6 := Lib.hid (K5.out.1.same hs6)
                  clear hE hs6
                  go_wp2_with fail
                  refine HE.out.mono ?_
                  clear HE
                  rintro e w6 ⟨rfl, nn, rfl⟩
                  have K7 := Lib.hid (K6.out.same (Step.drewN _ nn))
                  clear K6 K5
                  clear hbq
                  go_wp2_with fail
                  refine (kn_len K7.out).mono ?_
                  rintro e w' ⟨rfl, hw⟩
                  cases hw.symm
                  go_wp2_with fail
                  refine (kn_left K7.out 0 (by omega)).mono ?_
                  rintro e w8 ⟨rfl, hk8⟩
                  have K8 := Lib.hid (show Step [] w w8 by obtain ⟨_, _, _, h, _⟩ := hk8; exact h)
                  clear hk8 K7
                  go_wp2_with fail
                  refine (tells_any _).mono ?_
                  rintro e w9 ⟨rfl, hs9⟩
                  have K9 := Lib.hid (K8.out.trans hs9)
                  clear hs9
                  go_wp2_with fail
                  go_ret
                  exact ⟨rfl, K9.out⟩
end Go.Proofs.Ytbainekfbonbjaa
