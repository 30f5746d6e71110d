/- window: Copy, Ack. No statement is proved here; nothing is assumed. -/
import Derived.Test.YtbainekfbonbjaaWinE
namespace Go.Proofs.Ytbainekfbonbjaa
open Go.RowKit Go.Shelf
set_option linter.unusedVariables false
set_option linter.unusedSimpArgs false
attribute [local go_sem] Oper.semAt_some

set_option maxRecDepth 100000 in
set_option maxHeartbeats 2000000 in
theorem mapClone6 (b : Nat) (es : Array MapEntry) (clock : Nat) (w : World) (hb : w.heap[b]? = some (.map es clock)) :
    Calls Try.prog 97 #[.map (some b)] w fun e w' => e = .returned (.map (some w.heap.size)) ∧ w' = w.alloc (.map es clock) := by
  have hq := fun w => run_eql_map_nil_sl (P := Try.prog) w 93 _ _ (some b) Try.underlying93
  go_enter Try.func97, Try.ntmps97
  go_wp2
  rw [run_callFunc_extern func113' (by kernel_rfl) (by kernel_rfl) (by kernel_rfl) (e := Extern.MapsClone.clone) (by kernel_rfl), run_maps_clone_sl w 93 hb]
  simp only [Result.andThen]
  rw [Oper.upon_value]
  go_wp2
  rw [run_typeAssert_map_sl _ 93 20 _ _ _ Try.underlying93]
  simp only [Result.andThen]
  rw [Oper.upon_value]
  go_wp2
  go_ret
  exact ⟨rfl, rfl⟩

section
variable {B b sp bm u lim a z : Nat} {M : Ents} {g : Kept6} {w : World}
theorem copy6_nil (w : World) : Calls Try.prog 53 #[.pointer none] w fun e w' => e = .returned (.pointer none) ∧ w = w' := by
  go_enter Try.func53, Try.ntmps53
  go_wp2_with (go_at_call 92; refine (none6_nil _).mono ?_; rintro e w' ⟨rfl, hw⟩; cases hw.symm)
  go_ret
  exact ⟨rfl, rfl⟩
set_option maxRecDepth 100000 in
set_option maxHeartbeats 2000000 in
/-- A copy: blocks of its own, but for the payloads, which are shared and never written. -/
theorem copy6_any (h : WinM B w b sp bm u lim a z M g) : Calls Try.prog 53 #[.pointer (some ⟨b, 0, none⟩)] w fun e w' => ∃ c csp cm, e = .returned (.pointer (some ⟨c, 0, none⟩)) ∧ WinM B w' c csp cm u lim a z M g ∧ w.heap.size ≤ c ∧ w.heap.size ≤ csp ∧ w.heap.size ≤ cm ∧ Step [] w w' := by
  obtain ⟨c0, c1, c2, c3⟩ := win_cells h.o
  obtain ⟨s0, s1, _⟩ := space_cells h.s
  have HN := Lib.hid (none6_any b sp a z bm w h.o)
  have H := Lib.hid h
  clear h
  go_enter Try.func53, Try.ntmps53
  go_upto_region 4 with (go_at_call 92; refine HN.out.mono ?_; rintro e w' ⟨rfl, hw⟩; cases hw.symm)
  obtain ⟨W1, hW1⟩ : ∃ W1, W1 = w.alloc (.cells #[.int .u32 (u : Int), .int .u32 (lim : Int)] 92) := ⟨_, rfl⟩
  have hs1 : Step [] w W1 := by rw [hW1]; exact Step.alloc _ _
  have hz1 : W1.heap.size = w.heap.size + 1 := by rw [hW1]; simp
  have hsp1 : SpaceAt W1 w.heap.size u lim := by rw [hW1]; unfold SpaceAt; rw [heap_alloc_get, if_pos rfl]; rfl
  rw [← hW1]
  have HS := Lib.hid (show ∀ X, Step [] W1 X → X.cell? ⟨b, 1, none⟩ = some (.int .i64 (a : Int)) ∧ X.cell? ⟨b, 2, none⟩ = some (.int .i64 (z : Int)) ∧ X.cell? ⟨b, 3, none⟩ = some (.map (some bm)) from fun X hs => ⟨step_cell (hs1.trans hs) c1, step_cell (hs1.trans hs) c2, step_cell (hs1.trans hs) c3⟩)
  have k3 := step_cell hs1 c3
  have H1 := Lib.hid (And.intro hs1 (And.intro hz1 (And.intro hsp1 (H.out.same hs1))))
  clear c0 c1 c2 c3 s0 s1 hW1 hs1 hz1 hsp1 HN
  go_region_held3 (fun X => X.cell? ⟨b, 1, none⟩ = some (.int .i64 (a : Int)) ∧ X.cell? ⟨b, 2, none⟩ = some (.int .i64 (z : Int)) ∧ X.cell? ⟨b, 3, none⟩ = some (.map (some bm)))
    (first | exact HS.out _ (Step.drew _) | assumption | exact HS.out _ (((Step.alloc (S := []) _ _).trans (Step.alloc _ _)).trans (Step.drew _)))
    (first | (go_at_call 97; obtain ⟨es, clk, hb, hm⟩ := (H1.out.2.2.2.m.keep (Step.drew (S := []) W1) (by simp)).clone;
              refine (mapClone6 bm es clk _ hb).mono ?_; rintro e w' ⟨rfl, rfl⟩;
              have k0 := HS.out (W1.drew.alloc (.map es clk)) ((Step.drew (S := []) W1).trans (Step.alloc _ _)); have HM := Lib.hid (And.intro hm hb); clear hm hb))
  go_wp2
  go_ret
  obtain ⟨hs1, hz1, hsp1, hW⟩ := H1.out
  have hs2 : Step [] W1 (W1.alloc (.map es clk)) := Step.alloc _ _
  have hs3 : Step [] (W1.alloc (.map es clk)) (((W1.alloc (.map es clk)).alloc (.cells #[.pointer (some ⟨w.heap.size, 0, none⟩), .int .i64 (a : Int), .int .i64 (z : Int), .map (some W1.heap.size)] 95)).drew) := (Step.alloc _ _).trans (Step.drew _)
  have hI := (hW.same hs2).same hs3
  have hmm : MapV (W1.alloc (.map es clk)) W1.heap.size M := HM.out.1
  refine ⟨W1.heap.size + 1, w.heap.size, W1.heap.size, rfl, ⟨?_, obj_step (obj_step hsp1 hs2 (by simp)) hs3 (by simp), ?_, hmm.keep hs3 (by simp), hI.r, hI.ul, hI.az, hI.kb⟩, by omega, Nat.le_refl _, by omega, (hs1.trans hs2).trans hs3⟩
  · show ((W1.alloc (.map es clk)).alloc (.cells #[.pointer (some ⟨w.heap.size, 0, none⟩), .int .i64 (a : Int), .int .i64 (z : Int), .map (some W1.heap.size)] 95)).heap[W1.heap.size + 1]? = _
    rw [heap_alloc_get, if_pos (by simp)]; rfl
  · have := heap_lt (show w.heap[b]? = _ from H.out.o)
    have := H.out.lo
    omega
/-! ### Ack -/
theorem WinM.drop {W W' : World} {k : Nat} (h : WinM B W b sp bm u lim a z M g) (hs : Step [bm] W W') (hm : MapV W' bm (delE M k)) : WinM B W' b sp bm u lim a z (delE M k) (setG g k none) := by
  have hne := h.ne
  obtain ⟨es, c, hb⟩ := h.m.block
  exact ⟨obj_step h.o hs (by simp; exact hne.2.1), obj_step h.s hs (by simp; exact hne.2.2), h.lo, hm, (h.r.mono fun k v x _ hi => hi.step hs (fun i hi cur hc => by simp at hi; subst hi; rw [hb] at hc; cases hc)).del k, h.ul, h.az,
    fun i x hi => by
      by_cases e : i = k
      · rw [e, setG_same] at hi; cases hi
      · rw [setG_other _ _ e] at hi; exact h.kb i x hi⟩
/-- What is told is gone. -/
def ackG (ack mask : Nat) (g : Kept6) : Kept6 := fun k => if k < ack ∨ k ∈ toldL ack mask then none else g k
def G1 (ack : Nat) (g : Kept6) (L : Ents) : Kept6 := fun j => if j < ack ∧ hasE L j = false then none else g j
def G2 (ack : Nat) (g : Kept6) (l : List Nat) : Kept6 := fun j => if j < ack ∨ j ∈ l then none else g j
theorem G1_go {ack k : Nat} {g : Kept6} {L : Ents} (hk : k < ack) : G1 ack g (delE (delE L k) k) = setG (G1 ack g L) k none := by
  funext j
  unfold G1 setG
  dsimp only
  rw [hasE_del, hasE_del]
  by_cases e : j = k
  · subst e; rw [if_pos rfl, if_pos ⟨hk, by simp⟩]
  · rw [if_neg e]
    have : (j == k) = false := by simpa using e
    rw [this]; simp
theorem G1_skip {ack k : Nat} {g : Kept6} {L : Ents} (hk : ¬ k < ack) : G1 ack g (delE L k) = G1 ack g L := by
  funext j
  unfold G1
  rw [hasE_del]
  by_cases e : j = k
  · subst e; rw [if_neg (fun h => hk h.1), if_neg (fun h => hk h.1)]
  · have : (j == k) = false := by simpa using e
    rw [this]; simp
theorem G1_nil (ack : Nat) (g : Kept6) : G1 ack g [] = G2 ack g [] := by
  funext j
  unfold G1 G2
  simp [hasE]
theorem G1_all {rd : Nat → Value → Rec6 → Prop} (h : RepW rd M g) (ack : Nat) : G1 ack g M = g := by
  funext j
  unfold G1
  split
  · rename_i hj
    rw [h.has] at hj
    cases e : g j with
    | none => rfl
    | some x => rw [e] at hj; simp at hj
  · rfl
theorem G2_snoc (ack k : Nat) (g : Kept6) (l : List Nat) : G2 ack g (l ++ [k]) = setG (G2 ack g l) k none := by
  funext j
  unfold G2 setG
  dsimp only
  by_cases e : j = k
  · subst e; rw [if_pos rfl, if_pos (by simp)]
  · rw [if_neg e]
    simp [e]
/-- What the first of Ack's loops keeps. -/
def AckAt (B : Nat) (w : World) (b sp bm u lim a z ack n r b3 : Nat) (g : Kept6) (W : World) : Prop := ∃ M1 L, WinM B W b sp bm u lim a z M1 (G1 ack g L) ∧ M1.length ≤ n ∧ RngV W bm r M1 L ∧ Step [bm] w W ∧ Boxed W b3 64 (.pointer (some ⟨b, 0, none⟩))
theorem ack6_none {v : Value} (hn : ∀ w : World, Calls Try.prog 92 #[v] w fun e w' => e = .returned (.bool true) ∧ w' = w) (hv : v = .pointer none) (ack mask : Nat) (w : World) : Calls Try.prog 51 #[v, .int .u32 (ack : Int), .int .u32 (mask : Int)] w fun e w' => e = .returned (.int .i64 0) ∧ Step [] w w' := by
  subst hv
  have HN := Lib.hid hn
  clear hn
  refine (callsIn_wide (n := 0)).1 (callsIn_of_wp_marks Try.func51 rfl trivial ?_ rfl)
  simp only [Try.ntmps51, List.size_toArray, List.length_cons, List.length_nil, Nat.reduceAdd, Nat.reduceSub, Array.replicate_succ, Array.replicate_zero, List.push_toArray, List.append_toArray, List.nil_append, List.cons_append]
  gi_wp2_with (gi_at_call 92; refine (inW (HN.out _)).mono ?_; rintro e w' ⟨rfl, hw⟩; cases hw.symm)
  refine leaves_marks (B := w.heap.size) (results_tmp rfl _ _) [] _ (by simp) (by simp) ?_
  intro w' hc
  exact ⟨rfl, (Step.alloc _ _).calm hc (by simp)⟩
set_option maxRecDepth 100000 in
theorem ack6_far (h : WinM B w b sp bm u lim a z M g) (ack mask : Nat) (ha : u < ack) : Calls Try.prog 51 #[.pointer (some ⟨b, 0, none⟩), .int .u32 (ack : Int), .int .u32 (mask : Int)] w fun e w' => e = .returned (.int .i64 0) ∧ Step [] w w' := by
  have hs0 : Step [] w (w.alloc (.cells #[.pointer (some ⟨b, 0, none⟩)] 64)) := Step.alloc _ _
  have h1 := h.same hs0
  have HN := Lib.hid (none6_any b sp a z bm _ h1.o)
  obtain ⟨c0, _, _, c3⟩ := win_cells h1.o
  have HU := Lib.hid (used_any sp u lim h.ul.2.1 _ h1.s)
  have e1 : ((u : Int) < (ack : Int)) = True := by simp; omega
  clear h h1 ha
  refine (callsIn_wide (n := 0)).1 (callsIn_of_wp_marks Try.func51 rfl trivial ?_ rfl)
  simp only [Try.ntmps51, List.size_toArray, List.length_cons, List.length_nil, Nat.reduceAdd, Nat.reduceSub, Array.replicate_succ, Array.replicate_zero, List.push_toArray, List.append_toArray, List.nil_append, List.cons_append]
  gi_wp2_with (first | (gi_at_call 92; refine (inW HN.out).mono ?_; rintro e w' ⟨rfl, hw⟩; cases hw.symm) | (gi_at_call 41; refine (inW HU.out).mono ?_; rintro e w' ⟨rfl, rfl⟩))
  refine leaves_marks (B := w.heap.size) (results_tmp rfl _ _) [] _ (by simp) (by simp) ?_
  intro w' hc
  exact ⟨rfl, hs0.calm hc (by simp)⟩
end
end Go.Proofs.Ytbainekfbonbjaa
