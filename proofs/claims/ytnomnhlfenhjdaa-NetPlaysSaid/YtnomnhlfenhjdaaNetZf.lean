/- one: a call on both nets answers alike. No statement is proved here; nothing is assumed. -/
import Derived.Test.YtnomnhlfenhjdaaNetZe
import Derived.OwnWalkIn
import Derived.TacticsInMore
import Derived.LoopNIn
import Derived.LoopIn
import Derived.Deep.QuietTactic
import Derived.BigQuiet
import Derived.Maps.OwnIn
import Derived.Deep.RegionHeld3
import Derived.Laws.IdiomStrings
namespace Go.Proofs.Ytnomnhlfenhjdaa
open Go.RowKit Go.Shelf
set_option linter.unusedVariables false
set_option linter.unusedSimpArgs false
attribute [local go_sem] Oper.semAt_some

/-- An element is written. -/
theorem OwnAt.write {B : Nat} {W : World} {t : TypeId} {g off n cap : Nat} {vals : List Value} (ht : heldType t = false) (h : OwnAt B W t (.slice (some ⟨g, off, none⟩) n cap) vals) {k : Nat} (hk : k < vals.length) (v : Value) :
    OwnAt B (W.setCell ⟨g, off + k, none⟩ v) t (.slice (some ⟨g, off, none⟩) n cap) (vals.set k v) ∧ Step [g] W (W.setCell ⟨g, off + k, none⟩ v) ∧ W.frozen? ⟨g, off + k, none⟩ = false ∧ W.cell? ⟨g, off + k, none⟩ = vals[k]? := by
  rcases h with ⟨hn, _⟩ | ⟨g9, off9, cap9, cur9, hv9, hb9, hg9, h5, h6, h7, h8⟩
  · cases hn
  · cases hv9
    refine ⟨.inr ⟨g, off, cap, _, by simp, hb9, setCell_obj hg9 _ _, by simpa using h5, h6, by simpa using h7, fun j' hj' => ?_⟩, Step.setObj hg9 ht (by simp) _ _, cells_frozen hg9, ?_⟩
    · rw [List.length_set] at hj'
      by_cases hjk : j' = k
      · subst hjk
        rw [Array.getElem?_setIfInBounds_self_of_lt (by omega), List.getElem?_set_self hj']
      · rw [Array.getElem?_setIfInBounds_ne (by omega), h8 j' hj', List.getElem?_set_ne (by omega)]
    · rw [List.getElem?_eq_getElem hk]
      exact cells_cell hg9 ((h8 k hk).trans (List.getElem?_eq_getElem hk))
def AllU8 (vals : List Value) : Prop := ∀ (j : Nat) u, vals[j]? = some u → ∃ y : Int, u = .int .u8 y
theorem allU8_u8s (xs : List Nat) : AllU8 (u8s xs) := fun j u h => by
  rw [u8s_get] at h
  cases hx : xs[j]? with
  | none => rw [hx] at h; cases h
  | some x => rw [hx] at h; cases h; exact ⟨x, rfl⟩
theorem AllU8.set {vals : List Value} (h : AllU8 vals) (k : Nat) (y : Int) : AllU8 (vals.set k (.int .u8 y)) := fun j u hu => by
  by_cases e : j = k
  · subst e
    rw [List.getElem?_set] at hu
    simp at hu
    exact ⟨y, hu.2.symm⟩
  · rw [List.getElem?_set_ne (fun c => e c.symm)] at hu; exact h j u hu
/-- An owned byte block may turn. -/
theorem stepB_own {B : Nat} {W W' : World} {t : TypeId} {v : Value} {vals : List Value} {g : Nat} (h : OwnAt B W t v vals) (hg : v.ownBlock = some g) (ht : netTyped (.cells #[] t) = true) (hs : Step [g] W W') : StepB B W W' := by
  obtain ⟨h1, _, cur, hc⟩ := h.block hg
  exact StepB.one hs h1 hc ht
abbrev N0 : Nat → Prop := fun _ => False
def callV (what way i bit : Int) (v : Value) : Value := .agg #[.int .i64 what, .int .i64 way, .int .i64 i, .int .i64 bit, v]
def callO (what way i bit : Int) (v : Value) : Obj := .cells #[.int .i64 what, .int .i64 way, .int .i64 i, .int .i64 bit, v] 100
theorem call_cells {W : World} {cb : Nat} {what way i bit : Int} {v : Value} (h : W.heap[cb]? = some (callO what way i bit v)) : W.cell? ⟨cb, 0, none⟩ = some (.int .i64 what) ∧ W.cell? ⟨cb, 1, none⟩ = some (.int .i64 way) ∧ W.cell? ⟨cb, 2, none⟩ = some (.int .i64 i) ∧ W.cell? ⟨cb, 3, none⟩ = some (.int .i64 bit) ∧ W.cell? ⟨cb, 4, none⟩ = some v :=
  ⟨cells_cell h rfl, cells_cell h rfl, cells_cell h rfl, cells_cell h rfl, cells_cell h rfl⟩
/-- What `one` has done. -/
def OneDone (B bn rb : Nat) (w : World) (e : Ending) (w' : World) : Prop := e = .returned (.bool true) ∧ ∃ L', Pair B bn rb L' L' N0 N0 w' ∧ StepB B w w'

theorem call_keep {B cb : Nat} {W W' : World} {what way i bit : Int} {v : Value} (hs : StepB B W W') (h : W.heap[cb]? = some (callO what way i bit v)) :
    W'.cell? ⟨cb, 1, none⟩ = some (.int .i64 way) ∧ W'.cell? ⟨cb, 2, none⟩ = some (.int .i64 i) ∧ W'.cell? ⟨cb, 3, none⟩ = some (.int .i64 bit) ∧ W'.heap[cb]? = some (callO what way i bit v) := by
  have h' := hs.keep h rfl
  obtain ⟨_, c1, c2, c3, _⟩ := call_cells h'
  exact ⟨c1, c2, c3, h'⟩

theorem Pair.sound {B bn rb : Nat} {Ln Lr : Rows2} {Y Z : Nat → Prop} {W : World} (h : Pair B bn rb Ln Lr Y Z W) : Sound Ln := by obtain ⟨_, _, _, _, h⟩ := h; exact h.sn
theorem delB_by {L : Rows2} (h : Sound L) (way i : Int) : ∀ x ∈ delB L way i, x < 256 := by
  intro x hx
  unfold delB at hx
  split at hx
  · rename_i hs
    rcases stand_cases L way i with ⟨_, h1⟩ | ⟨_, _, h1⟩ | ⟨k, j, rfl, rfl, hk, hj, _⟩
    · omega
    · omega
    · exact (atB_sound h hk hj).2 x hx
  · cases hx
set_option maxRecDepth 100000 in
set_option maxHeartbeats 4000000 in
theorem one_dbl (B bn rb : Nat) (L : Rows2) (way i bit : Int) (v : Value) (w : World) (h : Pair B bn rb L L N0 N0 w) :
    Calls Try.prog 38 #[.pointer (some ⟨bn, 0, none⟩), .pointer (some ⟨rb, 0, none⟩), callV 5 way i bit v] w (OneDone B bn rb w) := by
  have HP := Lib.hid ((h.same' (Step.alloc w (callO 5 way i bit v))).same' (Step.drew _))
  have HC := Lib.hid (show (w.alloc (callO 5 way i bit v)).drew.heap[w.heap.size]? = some (callO 5 way i bit v) from (by rw [heap_alloc_get, if_pos rfl] : (w.alloc (callO 5 way i bit v)).heap[w.heap.size]? = some (callO 5 way i bit v)))
  have HS := Lib.hid ((StepB.of (B := B) (Step.alloc w (callO 5 way i bit v))).trans (StepB.of (Step.drew _)))
  obtain ⟨c0, -, -, -, -⟩ := call_cells (show (w.alloc (callO 5 way i bit v)).heap[w.heap.size]? = some (callO 5 way i bit v) by rw [heap_alloc_get, if_pos rfl])

  obtain ⟨E, hE⟩ : ∃ E, E = dblE L way i := ⟨_, rfl⟩
  have HE := Lib.hid hE
  clear h hE
  show Calls Try.prog 38 #[_, _, .agg #[.int .i64 5, .int .i64 way, .int .i64 i, .int .i64 bit, v]] w _
  unfold callO at c0
  go_enter Try.func38, Try.ntmps38
  go_wp2_with fail
  clear c0
  obtain ⟨W1, hW1⟩ : ∃ W1, W1 = w.alloc (.cells #[.int .i64 5, .int .i64 way, .int .i64 i, .int .i64 bit, v] 100) := ⟨_, rfl⟩
  rw [← hW1]
  replace HP := Lib.hid (show Pair B bn rb L L N0 N0 W1.drew by rw [hW1]; exact HP.out)
  replace HC := Lib.hid (show W1.drew.heap[w.heap.size]? = some (callO 5 way i bit v) by rw [hW1]; exact HC.out)
  replace HS := Lib.hid (show StepB B w W1.drew by rw [hW1]; exact HS.out)
  clear hW1
  generalize w.heap.size = cb at *
  have k0 := call_keep (StepB.refl (B := B) _) HC.out
  go_region_held3 (fun W => W.cell? ⟨cb, 1, none⟩ = some (.int .i64 way) ∧ W.cell? ⟨cb, 2, none⟩ = some (.int .i64 i) ∧ W.cell? ⟨cb, 3, none⟩ = some (.int .i64 bit) ∧ W.heap[cb]? = some (callO 5 way i bit v)) (first | exact k0 | exact call_keep HU.out (call_keep HT.out HC.out).2.2.2 | exact call_keep HT.out HC.out)
    (first | (go_at_call 32; refine (p_ndbl way i HP.out).mono ?_; rintro e w' ⟨rfl, hp, hs⟩; rw [← HE.out]; replace HP := Lib.hid hp; have HT := Lib.hid hs; clear hp hs k0) | (go_at_call 55; refine (p_rdbl way i HP.out).mono ?_; rintro e w' ⟨rfl, hp, hs⟩; rw [← HE.out]; replace HP := Lib.hid hp; have HU := Lib.hid hs; clear hp hs))
  go_wp2
  go_ret
  exact ⟨rfl, _, HP.out, HS.out.trans (HT.out.trans HU.out)⟩

set_option maxRecDepth 100000 in
set_option maxHeartbeats 4000000 in
theorem one_flp (B bn rb : Nat) (L : Rows2) (way i bit : Int) (hb : bit < 9223372036854775808) (v : Value) (w : World) (h : Pair B bn rb L L N0 N0 w) :
    Calls Try.prog 38 #[.pointer (some ⟨bn, 0, none⟩), .pointer (some ⟨rb, 0, none⟩), callV 6 way i bit v] w (OneDone B bn rb w) := by
  have HP := Lib.hid ((h.same' (Step.alloc w (callO 6 way i bit v))).same' (Step.drew _))
  have HC := Lib.hid (show (w.alloc (callO 6 way i bit v)).drew.heap[w.heap.size]? = some (callO 6 way i bit v) from (by rw [heap_alloc_get, if_pos rfl] : (w.alloc (callO 6 way i bit v)).heap[w.heap.size]? = some (callO 6 way i bit v)))
  have HS := Lib.hid ((StepB.of (B := B) (Step.alloc w (callO 6 way i bit v))).trans (StepB.of (Step.drew _)))
  obtain ⟨c0, -, -, -, -⟩ := call_cells (show (w.alloc (callO 6 way i bit v)).heap[w.heap.size]? = some (callO 6 way i bit v) by rw [heap_alloc_get, if_pos rfl])

  obtain ⟨E, hE⟩ : ∃ E, E = flpE L way i bit := ⟨_, rfl⟩
  have HE := Lib.hid hE
  have HB := Lib.hid hb
  clear h hE hb
  show Calls Try.prog 38 #[_, _, .agg #[.int .i64 6, .int .i64 way, .int .i64 i, .int .i64 bit, v]] w _
  unfold callO at c0
  go_enter Try.func38, Try.ntmps38
  go_wp2_with fail
  clear c0
  obtain ⟨W1, hW1⟩ : ∃ W1, W1 = w.alloc (.cells #[.int .i64 6, .int .i64 way, .int .i64 i, .int .i64 bit, v] 100) := ⟨_, rfl⟩
  rw [← hW1]
  replace HP := Lib.hid (show Pair B bn rb L L N0 N0 W1.drew by rw [hW1]; exact HP.out)
  replace HC := Lib.hid (show W1.drew.heap[w.heap.size]? = some (callO 6 way i bit v) by rw [hW1]; exact HC.out)
  replace HS := Lib.hid (show StepB B w W1.drew by rw [hW1]; exact HS.out)
  clear hW1
  generalize w.heap.size = cb at *
  have k0 := call_keep (StepB.refl (B := B) _) HC.out
  go_region_held3 (fun W => W.cell? ⟨cb, 1, none⟩ = some (.int .i64 way) ∧ W.cell? ⟨cb, 2, none⟩ = some (.int .i64 i) ∧ W.cell? ⟨cb, 3, none⟩ = some (.int .i64 bit) ∧ W.heap[cb]? = some (callO 6 way i bit v)) (first | exact k0 | exact call_keep HU.out (call_keep HT.out HC.out).2.2.2 | exact call_keep HT.out HC.out)
    (first | (go_at_call 30; refine (p_nflp way i bit HB.out HP.out).mono ?_; rintro e w' ⟨rfl, hp, hs⟩; rw [← HE.out]; replace HP := Lib.hid hp; have HT := Lib.hid hs; clear hp hs k0) | (go_at_call 56; refine (p_rflp way i bit HP.out).mono ?_; rintro e w' ⟨rfl, hp, hs⟩; rw [← HE.out]; replace HP := Lib.hid hp; have HU := Lib.hid hs; clear hp hs))
  go_wp2
  go_ret
  exact ⟨rfl, _, HP.out, HS.out.trans (HT.out.trans HU.out)⟩

set_option maxRecDepth 100000 in
set_option maxHeartbeats 4000000 in
theorem one_del (B bn rb : Nat) (L : Rows2) (what way i bit : Int) (hw : what = 3 ∨ what = 4) (v : Value) (w : World) (h : Pair B bn rb L L N0 N0 w) :
    Calls Try.prog 38 #[.pointer (some ⟨bn, 0, none⟩), .pointer (some ⟨rb, 0, none⟩), callV what way i bit v] w (OneDone B bn rb w) := by
  have HD := Lib.hid (delB_by h.sound way i)
  have HP := Lib.hid (h.same' (Step.alloc w (callO what way i bit v)))
  have HC := Lib.hid (show (w.alloc (callO what way i bit v)).heap[w.heap.size]? = some (callO what way i bit v) by rw [heap_alloc_get, if_pos rfl])
  have HS := Lib.hid (StepB.of (B := B) (Step.alloc w (callO what way i bit v)))
  have hsz : w.heap.size < (w.alloc (callO what way i bit v)).heap.size := by simp
  obtain ⟨c0, c1, c2, c3, c4⟩ := call_cells HC.out
  clear h
  generalize hW1 : w.alloc (callO what way i bit v) = W1 at *
  unfold callO at hW1
  generalize hcb : w.heap.size = cb at *
  obtain ⟨E, hE⟩ : ∃ E, E = standE L way i := ⟨_, rfl⟩
  have HE := Lib.hid hE
  clear hE hsz
  show Calls Try.prog 38 #[_, _, .agg #[.int .i64 what, .int .i64 way, .int .i64 i, .int .i64 bit, v]] w _
  rcases hw with rfl | rfl
  all_goals
    go_enter Try.func38, Try.ntmps38
    go_wp2_with fail
    clear hW1 hcb
    refine (p_ndel way i HP.out).mono ?_
    rintro e w2 ⟨v1, rfl, ho, hp, hs, -⟩
    rw [← HE.out]
    replace HP := Lib.hid hp
    replace HS := Lib.hid (HS.out.trans hs)
    have HO := Lib.hid ho
    obtain ⟨k1, k2, k3, hk⟩ := call_keep hs HC.out
    clear hp hs ho hk HC c0 c1 c2 c3 c4
    go_wp2_with fail
    refine (p_rdel way i HP.out).mono ?_
    rintro e w3 ⟨v2, rfl, ho2, hp, hs, hz⟩
    rw [← HE.out]
    replace HP := Lib.hid hp
    replace HS := Lib.hid (HS.out.trans hs)
    have hr1 := (HO.out.kept (W' := w3) (fun g hg _ => hz g (.inr hg))).reads
    have HQ := Lib.hid (equal_any v1 v2 _ HD.out w3 hr1 ho2.reads)
    clear hp hs ho2 hz hr1 HO k1 k2 k3
    go_wp2_with (go_at_call 40; refine HQ.out.mono ?_; rintro e w4 ⟨rfl, rfl⟩)
    go_ret
    exact ⟨rfl, _, HP.out.mono (fun _ c => c) (fun _ c => .inl c), HS.out⟩

set_option maxRecDepth 100000 in
set_option maxHeartbeats 4000000 in
theorem one_else (B bn rb : Nat) (L : Rows2) (what way i bit : Int) (hw : what < 0 ∨ 6 < what) (v : Value) (w : World) (h : Pair B bn rb L L N0 N0 w) :
    Calls Try.prog 38 #[.pointer (some ⟨bn, 0, none⟩), .pointer (some ⟨rb, 0, none⟩), callV what way i bit v] w (OneDone B bn rb w) := by
  have HP := Lib.hid (h.same' (Step.alloc w (callO what way i bit v)))
  have HC := Lib.hid (show (w.alloc (callO what way i bit v)).heap[w.heap.size]? = some (callO what way i bit v) by rw [heap_alloc_get, if_pos rfl])
  have HS := Lib.hid (StepB.of (B := B) (Step.alloc w (callO what way i bit v)))
  have hsz : w.heap.size < (w.alloc (callO what way i bit v)).heap.size := by simp
  obtain ⟨c0, c1, c2, c3, c4⟩ := call_cells HC.out
  clear h
  generalize hW1 : w.alloc (callO what way i bit v) = W1 at *
  unfold callO at hW1
  generalize hcb : w.heap.size = cb at *
  have t0 : (what == 0) = false := by simp; omega
  have t1 : (what == 1) = false := by simp; omega
  have t2 : (what == 2) = false := by simp; omega
  have t3 : (what == 3) = false := by simp; omega
  have t4 : (what == 4) = false := by simp; omega
  have t5 : (what == 5) = false := by simp; omega
  have t6 : (what == 6) = false := by simp; omega
  clear hsz hw
  show Calls Try.prog 38 #[_, _, .agg #[.int .i64 what, .int .i64 way, .int .i64 i, .int .i64 bit, v]] w _
  go_enter Try.func38, Try.ntmps38
  go_wp2_with fail
  clear hW1 hcb
  go_ret
  exact ⟨rfl, _, HP.out, HS.out⟩

set_option maxRecDepth 100000 in
set_option maxHeartbeats 4000000 in
theorem one_snd (B bn rb : Nat) (L : Rows2) (what way i bit : Int) (hw : what = 0 ∨ what = 1 ∨ what = 2) (v : Value) (xs : List Nat) (hx : ∀ x ∈ xs, x < 256) (hxl : xs.length ≤ 100000) (w : World) (hB : B ≤ w.heap.size) (hv : ∀ W, StepB B w W → Reads W v (u8s xs)) (h : Pair B bn rb L L N0 N0 w) :
    Calls Try.prog 38 #[.pointer (some ⟨bn, 0, none⟩), .pointer (some ⟨rb, 0, none⟩), callV what way i bit v] w (OneDone B bn rb w) := by
  have HX := Lib.hid hx
  have HXL := Lib.hid hxl
  have HV := Lib.hid hv
  have HBB := Lib.hid hB
  clear hx hxl hv hB
  have HP := Lib.hid (h.same' (Step.alloc w (callO what way i bit v)))
  have HC := Lib.hid (show (w.alloc (callO what way i bit v)).heap[w.heap.size]? = some (callO what way i bit v) by rw [heap_alloc_get, if_pos rfl])
  have HS := Lib.hid (StepB.of (B := B) (Step.alloc w (callO what way i bit v)))
  obtain ⟨c0, c1, c2, c3, c4⟩ := call_cells HC.out
  clear h
  generalize hW1 : w.alloc (callO what way i bit v) = W1 at *
  unfold callO at hW1
  have HB2 := Lib.hid (show B ≤ W1.heap.size by obtain ⟨_, _, hh⟩ := HS.out; have := hh.size; have := HBB.out; omega)
  generalize hcb : w.heap.size = cb at *
  obtain ⟨E, hE⟩ : ∃ E, E = sndE way xs := ⟨_, rfl⟩
  obtain ⟨T, hT⟩ : ∃ T, T = sndLost L way xs := ⟨_, rfl⟩
  have HE := Lib.hid hE
  have HT := Lib.hid hT
  clear hE hT
  show Calls Try.prog 38 #[_, _, .agg #[.int .i64 what, .int .i64 way, .int .i64 i, .int .i64 bit, v]] w _
  rcases hw with rfl | rfl | rfl
  all_goals
    go_enter Try.func38, Try.ntmps38
    go_wp2_with fail
    clear hW1 hcb
    refine (bytesClone_any v (u8s xs) (u8s_one xs) (by rw [u8s_length]; have := HXL.out; omega) W1 (HV.out W1 HS.out)).mono ?_
    rintro e w2 ⟨v1, rfl, ho, hs⟩
    have hB2 := HB2.out
    replace HP := Lib.hid ((HP.out.same hs).mono (Y' := fun g => v1.ownBlock = some g) (Z' := fun g => v1.ownBlock = some g) (fun g hg => .inr ⟨(ho.block hg).1, (ho.block hg).2.1⟩) (fun g hg => .inr ⟨(ho.block hg).1, (ho.block hg).2.1⟩))
    replace HS := Lib.hid (HS.out.trans (StepB.of hs))
    have HO := Lib.hid (ho.low hB2)
    have hk := obj_step HC.out hs (by simp)
    replace HC := Lib.hid hk
    obtain ⟨k1, k2, k3, -⟩ := call_keep (StepB.refl (B := B) _) hk
    obtain ⟨-, -, -, -, k4⟩ := call_cells hk
    clear ho hs hk c0 c1 c2 c3 c4 hB2
    go_wp2_with fail
    refine (p_nsnd way v1 xs HX.out HP.out HO.out.reads HO.out.v5).mono ?_
    rintro e w3 ⟨rfl, hp, hs, hy⟩
    rw [← HE.out, ← HT.out]
    replace HP := Lib.hid hp
    replace HS := Lib.hid (HS.out.trans hs)
    replace HO := Lib.hid (HO.out.kept (W' := w3) (fun g hg _ => hy g hg))
    have hk := hs.keep HC.out rfl
    replace HC := Lib.hid hk
    clear hp hs hy k1 k2 k3 k4
    obtain ⟨k1, k2, k3, -⟩ := call_keep (StepB.refl (B := B) _) hk
    obtain ⟨-, -, -, -, k4⟩ := call_cells hk
    clear hk
    go_wp2_with fail
    refine (p_rsnd way v xs HX.out HP.out (HV.out _ HS.out)).mono ?_
    rintro e w4 ⟨rfl, hp, hs, hy⟩
    rw [← HE.out, ← HT.out]
    replace HP := Lib.hid hp
    replace HS := Lib.hid (HS.out.trans hs)
    replace HO := Lib.hid (HO.out.kept (W' := w4) (fun g hg _ => hy g hg))
    clear hp hs hy k1 k2 k3 k4 HC HE HT
    obtain ⟨q1, n1, hv1⟩ := reads_slice HO.out.reads
    obtain ⟨N, hN⟩ : ∃ N, N = (u8s xs).length := ⟨_, rfl⟩
    rw [← hN] at hv1
    subst hv1
    have hN2 : (N : Int) ≤ 100000 := by have := HXL.out; rw [hN, u8s_length]; omega
    have HI := Lib.hid (show Pair B bn rb (sndL L way xs) (sndL L way xs) (fun g => (Value.slice q1 N n1).ownBlock = some g) (fun g => (Value.slice q1 N n1).ownBlock = some g) w4 ∧ StepB B w w4 ∧ ∃ vals, vals.length = N ∧ AllU8 vals ∧ OwnAt B w4 5 (.slice q1 N n1) vals from ⟨HP.out, HS.out, _, hN.symm, allU8_u8s xs, HO.out⟩)
    clear HP HS HO hN
    go_wp2_with fail
    go_loopw [45] (fun i wr => ∃ k : Nat, k ≤ N ∧ i = .int .i64 (k : Int) ∧ Hid (Pair B bn rb (sndL L way xs) (sndL L way xs) (fun g => (Value.slice q1 N n1).ownBlock = some g) (fun g => (Value.slice q1 N n1).ownBlock = some g) wr ∧ StepB B w wr ∧ ∃ vals, vals.length = N ∧ AllU8 vals ∧ OwnAt B wr 5 (.slice q1 N n1) vals)) (fun i wr => N - (intOf i).toNat)
    case atStart => exact ⟨0, by omega, rfl, HI⟩
    case round =>
      obtain ⟨k, hk, rfl, hi⟩ := hrel
      clear HI
      by_cases hlt : k < N
      · obtain ⟨hp, hs, vals, hl, hu, ho⟩ := hi.out
        obtain ⟨u, hu1⟩ : ∃ u, vals[k]? = some u := ⟨_, List.getElem?_eq_getElem (by omega)⟩
        obtain ⟨y, rfl⟩ := hu k u hu1
        obtain ⟨g1, o1, c1, hv1, hh1, hm1, hc1⟩ := ho.at hu1
        injection hv1 with e1 e2 e3
        subst e1 e3
        obtain ⟨x1, x2, x3, x4⟩ := ho.write rfl (show k < vals.length by omega) (.int .u8 ((y + 1) % 256))
        have HI := Lib.hid (show Pair B bn rb (sndL L way xs) (sndL L way xs) (fun g => (Value.slice (some ⟨g1, o1, none⟩) N n1).ownBlock = some g) (fun g => (Value.slice (some ⟨g1, o1, none⟩) N n1).ownBlock = some g) (wr.setCell ⟨g1, o1 + k, none⟩ (.int .u8 ((y + 1) % 256))) ∧ StepB B w (wr.setCell ⟨g1, o1 + k, none⟩ (.int .u8 ((y + 1) % 256))) ∧ ∃ vals, vals.length = N ∧ AllU8 vals ∧ OwnAt B (wr.setCell ⟨g1, o1 + k, none⟩ (.int .u8 ((y + 1) % 256))) 5 (.slice (some ⟨g1, o1, none⟩) N n1) vals from ⟨hp.write x2 (fun g hg _ => by simp at hg; subst hg; exact .inl ⟨rfl, rfl⟩), hs.trans (stepB_own ho rfl rfl x2), _, by rw [List.length_set]; exact hl, hu.set k _, x1⟩)
        have hki : (k : Int) < (N : Int) := by omega
        have hcm : (n1 : Int) ≤ 9223372036854775807 := by unfold maxLen at hm1; omega
        have hNc : N ≤ n1 := by omega
        clear hp hs hl hu ho hu1 x1 x2 x4 hi e2 hm1 hh1
        go_wp2
        go_roundw
        case rel => exact ⟨k + 1, by omega, by go_num, HI⟩
        case measure => simp [intOf]; omega
      · obtain rfl : k = N := by omega
        obtain ⟨hp, hs, -⟩ := hi.out
        have HF := Lib.hid (show ∃ L', Pair B bn rb L' L' N0 N0 wr ∧ StepB B w wr from ⟨_, hp.mono (fun _ c => c.elim) (fun _ c => c.elim), hs⟩)
        clear hlt hi hp hs
        go_wp2_with fail
        go_ret
        exact ⟨rfl, HF.out⟩

theorem one_any (B bn rb : Nat) (L : Rows2) (what way i bit : Int) (hb : bit < 9223372036854775808) (v : Value) (xs : List Nat) (hx : ∀ x ∈ xs, x < 256) (hxl : xs.length ≤ 100000) (w : World) (hB : B ≤ w.heap.size) (hv : ∀ W, StepB B w W → Reads W v (u8s xs)) (h : Pair B bn rb L L N0 N0 w) :
    Calls Try.prog 38 #[.pointer (some ⟨bn, 0, none⟩), .pointer (some ⟨rb, 0, none⟩), callV what way i bit v] w (OneDone B bn rb w) := by
  have hc : (what = 0 ∨ what = 1 ∨ what = 2) ∨ (what = 3 ∨ what = 4) ∨ what = 5 ∨ what = 6 ∨ (what < 0 ∨ 6 < what) := by omega
  rcases hc with hw | hw | rfl | rfl | hw
  · exact one_snd B bn rb L what way i bit hw v xs hx hxl w hB hv h
  · exact one_del B bn rb L what way i bit hw v w h
  · exact one_dbl B bn rb L way i bit v w h
  · exact one_flp B bn rb L way i bit hb v w h
  · exact one_else B bn rb L what way i bit hw v w h
end Go.Proofs.Ytnomnhlfenhjdaa
