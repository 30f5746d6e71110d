/- The document's answers, function by function: contracts. -/
import Derived.Test.YtbainekfbonbjaaSeqC
import Derived.OwnWalkIn
import Derived.TacticsInMore
import Derived.LoopNIn
import Derived.LoopIn
import Derived.Deep.QuietTactic
import Derived.BigQuiet
import Derived.Maps.OwnIn
namespace Go.Proofs.Ytbainekfbonbjaa
open Go.RowKit Go.Shelf
set_option linter.unusedVariables false
attribute [local go_sem] Oper.semAt_some

/-- BEHIND 'out = append(out, ..)' at a variable of the frame: nothing that lay ahead of the call has turned. -/
theorem appended_local {S : List Nat} {w W w1 : World} {base : Nat} {e : TypeId} {size : Nat} {v : Value} {k : Nat} {xs : List Value} {tmp : Obj} (hst : Step S w W) (hB : w.heap.size ≤ base) (he : heldType e = false)
    (hrow : W.ownsRow base e size v k xs) (hgrow : (W.alloc tmp).grownBy w1 v.ownBlock) : Step S w w1 := by
  have s1 : Step v.ownBlock.toList W w1 := (Step.alloc W tmp).trans (Step.grown hgrow (fun j ej => ⟨.inl (by simp [ej]), fun o ho => by
    rcases (hrow.alloc tmp).2 with ⟨rfl, _⟩ | ⟨g, cap, cur, rfl, _, hgb, _⟩
    · simp [Value.ownBlock] at ej
    · obtain rfl : g = j := by simpa [Value.ownBlock] using ej
      rw [hgb] at ho; cases ho; exact he⟩))
  exact hst.trans' s1 (fun _ h _ => h) (fun i h hlt => by have := hrow.lt i (by simpa using h); omega)

theorem isN_step {S : List Nat} {k : IntKind} {W W' : World} {v : Value} {zs : List Nat} (h : IsN k W v zs) (hs : Step [] W W') : IsN k W' v zs := by
  obtain ⟨p, cap, rfl, h1, h2, h3⟩ := h
  refine ⟨p, cap, rfl, h1, h2, fun hne => ?_⟩
  obtain ⟨b, off, rfl, hc⟩ := h3 hne
  exact ⟨b, off, rfl, fun i hi => (hs.below.cell (p := ⟨b, off + i, none⟩) (World.block_lt_of_cell? _ _ (hc i hi))).trans (hc i hi)⟩

theorem ownU_slice {B : Nat} {W : World} {v : Value} {zs : List Nat} (h : OwnU B W v zs) : ∃ ao cap, v = .slice ao zs.length cap := by
  rcases h.2 with ⟨rfl, h0⟩ | ⟨g, cap, _, rfl, _⟩
  · exact ⟨none, 0, by rw [h0]⟩
  · exact ⟨_, _, rfl⟩

theorem ownU_snoc {B : Nat} {W : World} {v : Value} {zs : List Nat} {x : Nat} (h : W.ownsRow B 22 1 v (zs.length + 1) (numRow .u32 zs ++ [.int .u32 (x : Int)])) : OwnU B W v (zs ++ [x]) := by
  rw [numRow_snoc] at h; simpa [OwnU] using h

theorem take_of_prefix {pre L : List Nat} (h : pre <+: L) : L.take pre.length = pre := by obtain ⟨t, rfl⟩ := h; simp

theorem has_at (v : Value) (xs : List Nat) (n : Nat) (N : Int) (w : World) (hN : N = (n : Int)) (h1 : IsN .u32 w v xs) :
    Calls Try.prog 86 #[v, .int .u32 N] w fun e w' => e = .returned (.bool (decide (n ∈ xs))) ∧ w = w' := by
  subst hN; exact has_any v xs n w h1

/-- What the document's answer says is missing. -/
def missL (f t : Nat) (have_ : List Nat) : List Nat := (List.range' f (t - f)).filter fun n => decide (n ∉ have_)

set_option maxRecDepth 100000 in
set_option maxHeartbeats 1000000 in
theorem refMissing_any (f t m : Nat) (v : Value) (hs : List Nat) (w : World) (hf : f < 4294967296) (ht : t < 4294967296) (hm : m ≤ 1000) (h1 : IsN .u32 w v hs) :
    Calls Try.prog 27 #[.int .u32 (f : Int), .int .u32 (t : Int), v, .int .i64 (m : Int)] w fun e W' => ∃ v', e = .returned v' ∧ OwnU w.heap.size W' v' ((missL f t hs).take m) ∧ Step [] w W' := by
  obtain ⟨i0, hi, hz0, hz1, hz2⟩ := info_parts info22
  have H1 := Lib.hid h1
  clear h1
  go_enter Try.func27, Try.ntmps27
  go_wp2
  go_loopw [9, 10] (fun o n wr => ∃ k : Nat, k ≤ t - f ∧ n = .int .u64 ((f : Int) + (k : Int)) ∧ Hid (OwnU w.heap.size wr o ((List.range' f k).filter fun n => decide (n ∉ hs))) ∧ ((List.range' f k).filter fun n => decide (n ∉ hs)).length ≤ m ∧ Hid (Step [] w wr)) (fun o n wr => t - (intOf n).toNat)
  case atStart => exact ⟨0, by omega, by simp, by simpa [Hid] using ownU_nil _ _, by simp, Step.refl _ _⟩
  case round =>
    obtain ⟨k, hk, rfl, ho, hlen, hst⟩ := hrel
    obtain ⟨ao, cap, rfl⟩ := ownU_slice ho.out
    have hpre : (List.range' f k).filter (fun n => decide (n ∉ hs)) <+: missL f t hs := filter_prefix _ (by
      refine ⟨List.range' (f + k) (t - f - k), ?_⟩
      rw [List.range'_append_1]; congr 1; omega)
    have hsn : List.range' f (k + 1) = List.range' f k ++ [f + k] := by rw [List.range'_concat]; simp
    generalize hL : (List.range' f k).filter (fun n => decide (n ∉ hs)) = L at *
    have HL := Lib.hid hL
    have HP := Lib.hid hpre
    have HSN := Lib.hid hsn
    clear hL hpre hsn
    by_cases hlt : f + k < t
    · by_cases hmm : L.length < m
      · by_cases hin : f + k ∈ hs
        · have hd : decide (f + k ∈ hs) = true := by simpa using hin
          have HIN := Lib.hid hin
          have HD := Lib.hid hd
          clear hin hd
          go_wp2_with (go_at_call 86; refine (has_at _ hs (f + k) _ _ (by omega) (isN_step (S := []) H1.out hst.out)).mono ?_; rintro e w' ⟨rfl, rfl⟩; rw [HD.out])
          exact ⟨⟨k + 1, by omega, by push_cast; rw [Int.add_assoc], by rw [HSN.out, List.filter_append, HL.out]; simp [HIN.out]; exact ho, by rw [HSN.out, List.filter_append, HL.out]; simp [HIN.out]; exact hlen, hst⟩, by simp [intOf]; omega⟩
        · have hd : decide (f + k ∈ hs) = false := by simpa using hin
          have HIN := Lib.hid hin
          have HD := Lib.hid hd
          clear hin hd
          go_wp2_with (first | (go_at_call 86; refine (has_at _ hs (f + k) _ _ (by omega) (isN_step (S := []) H1.out hst.out)).mono ?_; rintro e w' ⟨rfl, rfl⟩; rw [HD.out]) | (at_builtin; refine wpList_append_own_at _ rfl _ _ 26 rfl w.heap.size 22 i0 (.int .u32 0) 1 4 Try.underlying26 hi hz0 hz1 hz2 rfl (by decide) _ _ _ rfl (ho.out.alloc _) ⟨wr.heap.size, 0, none⟩ 1 1 [.int .u32 ((f : Int) + (k : Int))] rfl rfl (cell_one_new _ _ _) (by simp [Value.oneCell']) (by unfold maxLen; omega) (by omega) (by have := hst.out.size; simp; omega) ?_; intro v' w2 hown' hgrow _ hat; obtain ⟨g', cap', rfl⟩ := ownsRow_succ hown'))
          have hst2 := appended_local hst.out (Nat.le_refl _) rfl ho.out hgrow
          have hown2 : OwnU w.heap.size w2 (.slice (some ⟨g', 0, none⟩) (L.length + 1) cap') (L ++ [f + k]) := ownU_snoc (by push_cast; exact hown')
          have e : (List.range' f (k + 1)).filter (fun n => decide (n ∉ hs)) = L ++ [f + k] := by rw [HSN.out, List.filter_append, HL.out]; simp [HIN.out]
          exact ⟨⟨k + 1, by omega, by push_cast; rw [Int.add_assoc], by rw [e]; exact hown2, by rw [e]; simp; omega, hst2⟩, by simp [intOf]; omega⟩
      · have hfin : (missL f t hs).take m = L := by rw [show m = L.length from by omega]; exact take_of_prefix HP.out
        have HF := Lib.hid hfin
        clear hfin
        go_wp2
        go_ret
        exact ⟨_, rfl, by rw [HF.out]; exact ho.out, hst.out⟩
    · have hfin : (missL f t hs).take m = L := by
        have : k = t - f := by omega
        have e : missL f t hs = L := by rw [← HL.out, this]; rfl
        rw [e]; exact List.take_of_length_le hlen
      have HF := Lib.hid hfin
      clear hfin
      go_wp2
      go_ret
      exact ⟨_, rfl, by rw [HF.out]; exact ho.out, hst.out⟩
end Go.Proofs.Ytbainekfbonbjaa
