/- IntakeTakes: few: the first items, their bytes cut. No statement is proved here; nothing is assumed. -/
import Derived.Test.YtbainekfbonbjaaTakH
namespace Go.Proofs.Ytbainekfbonbjaa
open Go.RowKit Go.Shelf
set_option linter.unusedVariables false
set_option linter.unusedSimpArgs false
attribute [local go_sem] Oper.semAt_some

set_option maxRecDepth 100000 in
theorem info115 : (Try.prog.info? 115).map (fun i => (i.zero, i.size, i.bytes)) = some (some (.agg #[.int .u32 0, .slice none 0 0]), 2, 32) := by kernel_rfl
def itO (k : Nat) (v : Value) : Obj := .cells #[.int .u32 (k : Int), v] 115
/-- What an item is, as it came in: a number, and bytes. -/
structure RowIs (w : World) (V : Nat → Value) (k : Nat) (q : Option Addr) (n cap : Nat) : Prop where
  v0 : V 0 = .int .u32 (k : Int)
  v1 : V 1 = .slice q n cap
  hn : n ≤ cap
  hc : cap ≤ maxLen
/-- A row's cells. -/
def rowV (V : Nat → Value) : List Value := [V 0, match V 1 with | .slice q n c => .slice q (min n 300) c | v => v]
/-- The rows that were kept. -/
def KeptI (B : Nat) (W : World) (v : Value) (k : Nat) (V : Nat → Nat → Value) : Prop := ∃ xs, W.ownsRow B 115 2 v k xs ∧ ∀ i, i < k → ∀ j, j < 2 → xs[i * 2 + j]? = (rowV (V i))[j]?
theorem KeptI.push {B : Nat} {W' : World} {v' : Value} {k : Nat} {V : Nat → Nat → Value} {xs : List Value} (hx : ∀ i, i < k → ∀ j, j < 2 → xs[i * 2 + j]? = (rowV (V i))[j]?) (hl : xs.length = k * 2) (h : W'.ownsRow B 115 2 v' (k + 1) (xs ++ rowV (V k))) : KeptI B W' v' (k + 1) V := by
  refine ⟨_, h, fun i hi j hj => ?_⟩
  by_cases hik : i < k
  · rw [List.getElem?_append_left (by omega)]; exact hx i hik j hj
  · obtain rfl : i = k := by omega
    rw [List.getElem?_append_right (by omega), hl]
    rw [show i * 2 + j - i * 2 = j by omega]
theorem KeptI.same {B : Nat} {W W' : World} {v : Value} {k : Nat} {V : Nat → Nat → Value} (h : KeptI B W v k V) (hs : Step [] W W') : KeptI B W' v k V := by
  obtain ⟨xs, ⟨hl, ho⟩, hx⟩ := h
  refine ⟨xs, ⟨hl, ?_⟩, hx⟩
  rcases ho with ho | ⟨g, cap, cur, h1, h2, h3, h4⟩
  · exact .inl ho
  · exact .inr ⟨g, cap, cur, h1, h2, obj_step h3 hs (by simp), h4⟩

theorem new_cells2 {w : World} {h : Nat} {a b : Value} {t : TypeId} (hh : w.heap.size = h) : ∀ (j : Nat) u, [a, b][j]? = some u → (w.alloc (.cells #[a, b] t)).cell? ((⟨h, 0, none⟩ : Addr).add j) = some u := by
  intro j u hu
  rw [add_plain', Nat.zero_add]
  subst hh
  exact cells_cell (by rw [heap_alloc_get, if_pos rfl]) (by simpa using hu)
theorem rowForm {w : World} {B : Nat} {t : TypeId} {v : Value} {k : Nat} {xs : List Value} (h : w.ownsRow B t 2 v (k + 1) xs) : ∃ q n, v = .slice q (k + 1) n := by
  obtain ⟨_, ⟨_, h⟩ | ⟨g, cap, cur, rfl, _⟩⟩ := h
  · omega
  · exact ⟨_, _, rfl⟩
theorem few_step {w wr w' : World} {k : Nat} {V : Nat → Nat → Value} {v v' : Value} {xs news : List Value} {o o' : Obj} (h9 : k < 80) (ho : wr.ownsRow w.heap.size 115 2 v k xs) (hx : ∀ i, i < k → ∀ j, j < 2 → xs[i * 2 + j]? = (rowV (V i))[j]?) (hr : rowV (V k) = news) (hs : Step [] w wr)
    (ho' : w'.ownsRow w.heap.size 115 2 v' (k + 1) (xs ++ news)) (hg : ((wr.alloc o).alloc o').grownBy w' v.ownBlock) : KeptI w.heap.size w' v' (k + 1) V ∧ Step [] w w' := by
  refine ⟨KeptI.push hx ho.1 (by rw [hr]; exact ho'), ?_⟩
  have h2 := (ho.alloc o).alloc o'
  have h3 : Step v.ownBlock.toList ((wr.alloc o).alloc o') w' := Step.grown hg (fun j hj => ⟨.inl (by simp [hj]), fun ob hob => by
    rcases h2.2 with ⟨rfl, _⟩ | ⟨g, cap, cur, rfl, _, hgb, _⟩
    · cases hj
    · cases hj; rw [hgb] at hob; cases hob; rfl⟩)
  have h4 : Step [] w ((wr.alloc o).alloc o') := hs.trans ((Step.alloc _ _).trans (Step.alloc _ _))
  refine h4.trans' h3 (fun _ h _ => h) (fun i hi hl => ?_)
  simp at hi
  have := (h2.lt i hi).1
  omega

set_option maxRecDepth 100000 in
set_option maxHeartbeats 4000000 in
theorem few_any (q : Option Addr) (N cap : Nat) (hN : N ≤ cap) (hcap : cap ≤ maxLen) (V : Nat → Nat → Value) (w : World) (hrow : RowOf w q N 2 V)
    (hV : ∀ i, i < N → ∃ kk q n cap, RowIs w (V i) kk q n cap) :
    Calls Try.prog 70 #[.slice q N cap, .int .i64 80] w fun e w' => ∃ v, e = .returned v ∧ KeptI w.heap.size w' v (min N 80) V ∧ Step [] w w' := by
  obtain ⟨i0, hi0, hz0, hz1, hz2⟩ := info_parts info115
  have HV := Lib.hid hV
  have HR := Lib.hid hrow
  have hNm : (N : Int) ≤ 9223372036854775807 := by unfold maxLen at hcap; omega
  clear hV hrow hN hcap
  go_enter Try.func70, Try.ntmps70
  go_wp2_with fail
  go_loopw [5, 10] (fun v i wr => ∃ k : Nat, k ≤ N ∧ i = .int .i64 (k : Int) ∧ (∃ q1 n1, v = .slice q1 (min k 80) n1) ∧ Hid (KeptI w.heap.size wr v (min k 80) V ∧ Step [] w wr)) (fun _ i wr => N - (intOf i).toNat)
  case atStart => exact ⟨0, by omega, rfl, ⟨none, 0, by simp⟩, ⟨⟨[], by simpa using World.ownsRow_nil _ _ _ _, fun i hi => by simp at hi⟩, Step.refl _ _⟩⟩
  case round =>
    obtain ⟨k, hk, rfl, ⟨q1, n1, rfl⟩, hi⟩ := hrel
    by_cases hlt : k < N
    · obtain ⟨b, off, rfl, hc⟩ : ∃ b off, q = some ⟨b, off, none⟩ ∧ ∀ j, j < 2 → wr.cell? ⟨b, off + (k * 2 + j), none⟩ = some (V k j) := by
        rcases HR.out with h0 | ⟨b, off, rfl, hc⟩
        · omega
        · exact ⟨b, off, rfl, fun j hj => step_cell hi.out.2 (hc k hlt j hj)⟩
      obtain ⟨kk, q2, n2, c2, R⟩ := HV.out k hlt
      have c0 : wr.cell? ⟨b, off + k * 2, none⟩ = some (.int .u32 (kk : Int)) := (hc 0 (by omega)).trans (by rw [R.v0])
      have c1 : wr.cell? ⟨b, off + k * 2 + 1, none⟩ = some (.slice q2 n2 c2) := (hc 1 (by omega)).trans (by rw [R.v1])
      have hnc : n2 ≤ c2 := R.hn
      have hcm2 : (c2 : Int) ≤ 9223372036854775807 := by have := R.hc; unfold maxLen at this; omega
      have hRV : rowV (V k) = [.int .u32 (kk : Int), .slice q2 (min n2 300) c2] := by unfold rowV; rw [R.v0, R.v1]
      have HRV := Lib.hid hRV
      clear hc R hRV
      have hki : (k : Int) < (N : Int) := by omega
      by_cases h9 : k < 80
      · have hk9 : (k : Int) < 80 := by omega
        rw [show min k 80 = k by omega] at hi ⊢
        obtain ⟨xs, ho, hx⟩ := hi.out.1
        have HO := Lib.hid ho
        have HX := Lib.hid hx
        have HS := Lib.hid hi.out.2
        have H9 := Lib.hid h9
        clear ho hx hi h9
        by_cases h3 : 300 < n2
        · have s3 : ((300 : Int) < (n2 : Int)) = True := by simp; omega
          have HRV2 := Lib.hid (show rowV (V k) = [.int .u32 (kk : Int), .slice q2 300 c2] from by rw [HRV.out, show min n2 300 = 300 by omega])
          clear HRV
          go_wp2_with (at_builtin; refine wpList_append_own _ rfl _ _ 108 rfl w.heap.size 115 i0 _ 2 32 Try.underlying108 hi0 hz0 hz1 hz2 rfl (by omega) (.slice q1 k n1) k xs rfl (by have h1 := (HO.out.alloc (itO kk (.slice q2 300 c2))).alloc (itO kk (.slice q2 300 c2)); exact h1) ⟨wr.heap.size + 1, 0, none⟩ 1 1 [.int .u32 (kk : Int), .slice q2 300 c2] rfl rfl (new_cells2 (by simp)) (by simp [Value.oneCell']) (by have := H9.out; unfold maxLen; omega) (by have := H9.out; omega) (by have := HS.out.size; simp; omega) ?_; intro v' w' ho hg _; obtain ⟨q3, n3, rfl⟩ := rowForm ho; have HD := Lib.hid (few_step H9.out HO.out HX.out HRV2.out HS.out ho hg); clear ho hg)
          go_roundw
          case rel => exact ⟨k + 1, by omega, by go_num, ⟨q3, n3, by rw [show min (k + 1) 80 = k + 1 by have := H9.out; omega]⟩, by rw [show min (k + 1) 80 = k + 1 by have := H9.out; omega]; exact HD.out⟩
          case measure => simp [intOf]; omega
        · have s3 : ((300 : Int) < (n2 : Int)) = False := by simp; omega
          have HRV2 := Lib.hid (show rowV (V k) = [.int .u32 (kk : Int), .slice q2 n2 c2] from by rw [HRV.out, show min n2 300 = n2 by omega])
          clear HRV
          go_wp2_with (at_builtin; refine wpList_append_own _ rfl _ _ 108 rfl w.heap.size 115 i0 _ 2 32 Try.underlying108 hi0 hz0 hz1 hz2 rfl (by omega) (.slice q1 k n1) k xs rfl (by have h1 := (HO.out.alloc (itO kk (.slice q2 n2 c2))).alloc (itO kk (.slice q2 n2 c2)); exact h1) ⟨wr.heap.size + 1, 0, none⟩ 1 1 [.int .u32 (kk : Int), .slice q2 n2 c2] rfl rfl (new_cells2 (by simp)) (by simp [Value.oneCell']) (by have := H9.out; unfold maxLen; omega) (by have := H9.out; omega) (by have := HS.out.size; simp; omega) ?_; intro v' w' ho hg _; obtain ⟨q3, n3, rfl⟩ := rowForm ho; have HD := Lib.hid (few_step H9.out HO.out HX.out HRV2.out HS.out ho hg); clear ho hg)
          go_roundw
          case rel => exact ⟨k + 1, by omega, by go_num, ⟨q3, n3, by rw [show min (k + 1) 80 = k + 1 by have := H9.out; omega]⟩, by rw [show min (k + 1) 80 = k + 1 by have := H9.out; omega]; exact HD.out⟩
          case measure => simp [intOf]; omega
      · have hk9 : ((k : Int) < 80) = False := by simp; omega
        rw [show min k 80 = 80 by omega] at hi ⊢
        have H9 := Lib.hid h9
        have HI := Lib.hid (show KeptI w.heap.size (wr.alloc (itO kk (.slice q2 n2 c2))) (.slice q1 80 n1) 80 V ∧ Step [] w (wr.alloc (itO kk (.slice q2 n2 c2))) from ⟨hi.out.1.same (Step.alloc _ _), hi.out.2.trans (Step.alloc _ _)⟩)
        unfold itO at HI
        clear hi h9
        go_wp2
        go_roundw
        case rel => exact ⟨k + 1, by omega, by go_num, ⟨q1, n1, by rw [show min (k + 1) 80 = 80 by have := H9.out; omega]⟩, by rw [show min (k + 1) 80 = 80 by have := H9.out; omega]; exact HI⟩
        case measure => simp [intOf]; omega
    · obtain rfl : k = N := by omega
      clear hlt
      go_wp2_with fail
      go_ret
      exact ⟨_, rfl, hi.out⟩
end Go.Proofs.Ytbainekfbonbjaa
