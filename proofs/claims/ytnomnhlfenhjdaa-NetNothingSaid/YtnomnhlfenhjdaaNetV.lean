/- NetNothing: its walk. No statement is proved here; nothing is assumed. -/
import Derived.Test.YtnomnhlfenhjdaaNetU
import Derived.Test.YtnomnhlfenhjdaaOpen
import Derived.Test.YtnomnhlfenhjdaaRound
import Derived.OwnWalkIn
import Derived.TacticsInMore
import Derived.LoopNIn
import Derived.LoopIn
import Derived.Deep.QuietTactic
import Derived.BigQuiet
import Derived.Maps.OwnIn
import Derived.Sort.CutIn
import Derived.StillTailTactics
import Derived.Sort.QuietIn
import Derived.BigRegionIn
import Derived.Stop.RegionWithIn
namespace Go.Proofs.Ytnomnhlfenhjdaa
open Go.RowKit Go.Shelf Go.Maps
set_option linter.unusedVariables false
set_option linter.unusedSimpArgs false
attribute [local go_sem] Oper.semAt_some

/-- What lies in memory behind k acts. -/
def Noth (w : World) (bn m0 k sent : Nat) (Ds : List Nat) (W : World) : Prop :=
  ∃ (L : Nat → List (Nat × Nat)) (f : Nat → Nat → Nat), Fair k sent L f ∧ Mem w bn m0 k L f (fun way => (L way).length) Ds W
theorem Noth.same {w W W' : World} {bn m0 k sent : Nat} {Ds : List Nat} (h : Noth w bn m0 k sent Ds W) (hs : Step [] W W') : Noth w bn m0 k sent Ds W' := by
  obtain ⟨L, f, h1, h2⟩ := h
  exact ⟨L, f, h1, h2.same hs⟩
theorem Noth.step {w W : World} {bn m0 k sent : Nat} {Ds : List Nat} (h : Noth w bn m0 k sent Ds W) : Step [] w W := by
  obtain ⟨L, f, h1, h2⟩ := h
  exact h2.st
theorem len_upd (L : Nat → List (Nat × Nat)) (way : Nat) (X : List (Nat × Nat)) : (fun k => (upd L way X k).length) = upd (fun k => (L k).length) way X.length := by
  funext k; unfold upd; split <;> rfl
theorem len_same (L : Nat → List (Nat × Nat)) (way : Nat) (X : List (Nat × Nat)) (h : X.length = (L way).length) : (fun k => (upd L way X k).length) = fun k => (L k).length := by
  funext k; unfold upd; split
  · rename_i e; subst e; exact h
  · rfl
set_option maxRecDepth 100000 in
def nothFrame (q : Option Addr) (N cap bn m0 k sent : Nat) (U : Nat → Value) : Array Value := #[.slice q N cap, undef, .bool false, .pointer (some ⟨bn, 0, none⟩), .pointer (some ⟨m0 + 1 + 1, 0, none⟩), .pointer (some ⟨m0 + 1 + 1 + 1, 0, none⟩), .int .i64 (sent : Int), U 7, U 8, U 9, U 10, U 11, U 12, U 13, U 14, U 15, U 16, U 17, U 18, U 19, U 20, .pointer (some ⟨bn, 0, none⟩), .map (some m0), .map (some (m0 + 1)), .agg #[.map (some m0), .map (some (m0 + 1))], .agg #[.int .i64 0, .int .i64 0], .slice q N cap, .int .i64 (N : Int), .int .i64 (k : Int), U 29, U 30, U 31, U 32, U 33, U 34, U 35, U 36, U 37, U 38, U 39, U 40, U 41, U 42, U 43, U 44, U 45, U 46, U 47, U 48, U 49, U 50, U 51, U 52, U 53, U 54, U 55, U 56, U 57, U 58, U 59, U 60, U 61, U 62, U 63, U 64, U 65, U 66, U 67, U 68, U 69, U 70, U 71, U 72, U 73, U 74, U 75, U 76, U 77, U 78, U 79, U 80, U 81, U 82, U 83, U 84, U 85, U 86, U 87, U 88, U 89, U 90, U 91, U 92, U 93, U 94, U 95, U 96, U 97, U 98, U 99, U 100, U 101, U 102, U 103, U 104, U 105, U 106, U 107, U 108, U 109, U 110, U 111, U 112, U 113, U 114, U 115, U 116, U 117, U 118, U 119, U 120, U 121, U 122, U 123, U 124, U 125, U 126, U 127, U 128, U 129, U 130, U 131, U 132, U 133, U 134, U 135, U 136, U 137, U 138, U 139, U 140, U 141, U 142, U 143, U 144, U 145, U 146, U 147, U 148, U 149, U 150, U 151, U 152, U 153, U 154, U 155, U 156, U 157, U 158, U 159, U 160, U 161, U 162, U 163, U 164, U 165, U 166, U 167, U 168, U 169, U 170, U 171, U 172, U 173, U 174, U 175, U 176, U 177, U 178, U 179, U 180, U 181, U 182, U 183, U 184, U 185, U 186, U 187, U 188, U 189, U 190, U 191, U 192, U 193, U 194, U 195, U 196, U 197, U 198, U 199, U 200, U 201, U 202, U 203, U 204, U 205, U 206, U 207, U 208, U 209, U 210, U 211, U 212, U 213, U 214, U 215, U 216, U 217, U 218, U 219, U 220, U 221, U 222, U 223, U 224, U 225, U 226, U 227, U 228]
/-- The frame and the memory at the head of the loop over the acts. -/
def NothI (q : Option Addr) (N cap bn m0 : Nat) (w : World) (a : Act) (W : World) : Prop :=
  ∃ (U : Nat → Value) (k sent : Nat) (Ds : List Nat), (k ≤ N ∧ k ≤ 200) ∧ Noth w bn m0 k sent Ds W ∧ a = { tmps := nothFrame q N cap bn m0 k sent U, defers := Ds.map markAt }
theorem NothI.intro {q : Option Addr} {N cap bn m0 : Nat} {w W : World} {tmps : Array Value} {defers : List Deferred} (k sent : Nat) (Ds : List Nat) (h1 : k ≤ N ∧ k ≤ 200) (h2 : Noth w bn m0 k sent Ds W) (ht : tmps = nothFrame q N cap bn m0 k sent (fun i => tmps.getD i undef)) (hd : defers = Ds.map markAt) : NothI q N cap bn m0 w { tmps := tmps, defers := defers } W :=
  ⟨fun i => tmps.getD i undef, k, sent, Ds, h1, h2, by rw [hd, ← ht]⟩
/-- The same, behind the act. -/
def NothT (q : Option Addr) (N cap bn m0 k : Nat) (w : World) (a : Act) (W : World) : Prop :=
  ∃ (U : Nat → Value) (sent : Nat) (Ds : List Nat), Noth w bn m0 (k + 1) sent Ds W ∧ a = { tmps := nothFrame q N cap bn m0 k sent U, defers := Ds.map markAt }
theorem NothT.intro {q : Option Addr} {N cap bn m0 k : Nat} {w W : World} {tmps : Array Value} {defers : List Deferred} (sent : Nat) (Ds : List Nat) (h2 : Noth w bn m0 (k + 1) sent Ds W) (ht : tmps = nothFrame q N cap bn m0 k sent (fun i => tmps.getD i undef)) (hd : defers = Ds.map markAt) : NothT q N cap bn m0 k w { tmps := tmps, defers := defers } W :=
  ⟨fun i => tmps.getD i undef, sent, Ds, h2, by rw [hd, ← ht]⟩
theorem wpIn_cutR {F : Fence} {rm : Nat} {P : Program} {s : Code} {K : Act → World → Prop} {Q' : Exit → Act → World → Prop} {a : Act} {w : World} (R : Act → World → Prop) (rest : ∀ a' w', R a' w' → K a' w') (first : s.wpIn F rm P (Exit.then R Q') a w) : s.wpIn F rm P (Exit.then K Q') a w := by
  refine wpIn_mono first ?_
  intro e a' w' hq
  cases e with
  | normal => exact rest _ _ hq
  | exit id => exact hq
  | goto l => exact hq
  | ret => exact hq
  | panic ch => exact hq
  | outgrown => exact hq
theorem erase_map {α β : Type} (f : α → β) (l : List α) (i : Nat) : (l.map f).eraseIdx i = (l.eraseIdx i).map f := by
  rw [List.eraseIdx_eq_take_drop_succ, List.eraseIdx_eq_take_drop_succ, List.map_append, List.map_take, List.map_drop]
theorem and254 {x : Nat} (h : x < 2) : (bits BinOp.and IntKind.u8 (x : Int) 254 != 0) = false := by
  have hc : x = 0 ∨ x = 1 := by omega
  rcases hc with rfl | rfl <;> decide +kernel
theorem or0_all : ∀ x : Fin 256, bits BinOp.or IntKind.i64 0 ((x.1 : Nat) : Int) = ((x.1 : Nat) : Int) := by decide +kernel
theorem or0 {x : Nat} (h : x < 256) : bits BinOp.or IntKind.i64 0 (x : Int) = (x : Int) := or0_all ⟨x, h⟩
theorem Mem.calm {w W W' : World} {bn m0 n B : Nat} {L : Nat → List (Nat × Nat)} {f : Nat → Nat → Nat} {v : Nat → Nat} {Ds : List Nat} (h : Mem w bn m0 n L f v Ds W) (hc : Calm B W W') (hB : w.heap.size ≤ B) (hD : ∀ D ∈ Ds, D < B) : Mem w bn m0 n L f v Ds W' := by
  obtain ⟨r, e, hN⟩ := h.net
  exact ⟨⟨r, e, hN.calm hc⟩, h.ma.calm hc, h.mb.calm hc, obj_calm h.am hc rfl, obj_calm h.aw hc rfl, h.st.calm hc hB, h.lo, fun D hD' => ⟨(h.ds D hD').1, hc.keep D _ (h.ds D hD').2 (.inr (hD D hD'))⟩, h.nd⟩
def idOf (L : Nat → List (Nat × Nat)) (way y j : Nat) : Nat := if y < j then ((L way)[y]?.getD (0, 0)).1 else 0
/-- What the loop over All that looks for a number goes along with. -/
def Doub (w : World) (bn m0 k way y ab ib ba : Nat) (L : Nat → List (Nat × Nat)) (f : Nat → Nat → Nat) (Ds : List Nat) (r : Nat → Value) (e : Nat → List Sl) (j : Nat) (W : World) : Prop :=
  Boxed W ib 3 (.int .i64 (idOf L way y j : Int)) ∧ NetAt w.heap.size W bn r e (fun way => (L way).map (dat way)) ∧ Mem w bn m0 k L f (fun way => (L way).length) Ds W ∧ Boxed W ab 3 (.int .i64 (y : Int)) ∧ Boxed W ba 70 (.pointer (some ⟨bn, 0, none⟩)) ∧ Boxed W (ba + 1) 3 (.int .i64 (way : Int))
section
variable {w W W' : World} {bn m0 k way y ab ib ba B j : Nat} {L : Nat → List (Nat × Nat)} {f : Nat → Nat → Nat} {Ds : List Nat} {r : Nat → Value} {e : Nat → List Sl}
theorem Doub.calm (h : Doub w bn m0 k way y ab ib ba L f Ds r e j W) (hc : Calm B W W') (hB : w.heap.size ≤ B) (hD : ∀ D ∈ Ds, D < B) : Doub w bn m0 k way y ab ib ba L f Ds r e j W' :=
  ⟨boxed_calm h.1 hc, h.2.1.calm hc, h.2.2.1.calm hc hB hD, boxed_calm h.2.2.2.1 hc, boxed_calm h.2.2.2.2.1 hc, boxed_calm h.2.2.2.2.2 hc⟩
theorem Doub.next (h : Doub w bn m0 k way y ab ib ba L f Ds r e j W) (hne : j ≠ y) : Doub w bn m0 k way y ab ib ba L f Ds r e (j + 1) W := by
  have : idOf L way y (j + 1) = idOf L way y j := by
    unfold idOf
    by_cases h1 : y < j
    · rw [if_pos h1, if_pos (by omega)]
    · rw [if_neg h1, if_neg (by omega)]
  unfold Doub
  rw [this]
  exact h
theorem Doub.found {id xx : Nat} (h : Doub w bn m0 k way y ab ib ba L f Ds r e y W) (hp : (L way)[y]? = some (id, xx)) (hs : Step [] W W') (h0 : ib ≠ m0) (h1 : ib ≠ m0 + 1) (h2 : ib ≠ m0 + 1 + 1) (h3 : ib ≠ m0 + 1 + 1 + 1) (h4 : ib ≠ ab) (h5 : ib ≠ ba) (h6 : ib ≠ ba + 1) (hw : w.heap.size ≤ ib) :
    Doub w bn m0 k way y ab ib ba L f Ds r e (y + 1) (W'.setCell ⟨ib, 0, none⟩ (.int .i64 (id : Int))) ∧ BookX [] W (W'.setCell ⟨ib, 0, none⟩ (.int .i64 (id : Int))) ∧ ∀ B' v c, OwnAt B' W 68 v c → OwnAt B' (W'.setCell ⟨ib, 0, none⟩ (.int .i64 (id : Int))) 68 v c := by
  obtain ⟨a1, a2, a3, a4, a5, a6⟩ := h
  replace a1 := boxed_step a1 hs (by simp)
  replace a4 := boxed_step a4 hs (by simp)
  replace a5 := boxed_step a5 hs (by simp)
  replace a6 := boxed_step a6 hs (by simp)
  replace a2 := a2.same hs
  replace a3 := a3.same hs
  have hst : Step [ib] W' (W'.setCell ⟨ib, 0, none⟩ (.int .i64 (id : Int))) := Step.setObj a1 rfl (by simp) _ _
  have hS : ∀ i ∈ [ib], ∀ o, W'.heap[i]? = some o → netTyped o = false := fun i hi o ho => by
    simp at hi; subst hi
    rw [show W'.heap[i]? = _ from a1] at ho; cases ho; rfl
  have hid : idOf L way y (y + 1) = id := by unfold idOf; rw [if_pos (by omega), hp]; rfl
  refine ⟨⟨by rw [hid]; exact a1.set _, a2.apart hst hS, a3.apart a1 rfl hw h0 h1 h2 h3 (fun l hl => by cases hl) hst, boxed_step a4 hst (by simp; exact fun e => h4 e.symm), boxed_step a5 hst (by simp; exact fun e => h5 e.symm), boxed_step a6 hst (by simp; exact fun e => h6 e.symm)⟩, hs.book.trans hst.book, fun B' v c h9 => (h9.same hs).apart rfl hst hS⟩
end
theorem ite_way (b : Bool) : (if b = true then (1 : Nat) else 0) < 2 := by split <;> omega

set_option maxRecDepth 100000 in
set_option maxHeartbeats 8000000 in
theorem nothing_walk (q : Option Addr) (N cap : Nat) (hN : N ≤ cap) (hcap : cap ≤ maxLen) (V : Nat → Nat → Value) (w : World) (hrow : RowOf w q N 3 V)
    (hV : ∀ i, i < N → ∃ (x y : Nat) (b : Bool), V i 0 = .int .u8 (x : Int) ∧ V i 1 = .int .u8 (y : Int) ∧ V i 2 = .bool b ∧ x < 256 ∧ y < 256) :
    Calls Try.prog 8 #[.slice q N cap] w fun e w' => e = .returned (.bool true) ∧ Step [] w w' := by
  have hNm : (N : Int) ≤ 9223372036854775807 := by unfold maxLen at hcap; omega
  have hNc : N ≤ cap := hN
  have hcm : cap ≤ 9223372036854775807 := by unfold maxLen at hcap; omega
  have HV := Lib.hid hV
  have HR := Lib.hid hrow
  clear hV hrow hN hcap
  have hmm := @run_makeMap Try.prog
  refine (callsIn_wide (n := 0)).1 (callsIn_of_wp_marks Try.func8 rfl trivial ?_ rfl)
  simp only [Try.ntmps8, List.size_toArray, List.length_cons, List.length_nil, Nat.reduceAdd, Nat.reduceSub, Array.replicate_succ, Array.replicate_zero, List.push_toArray, List.append_toArray, List.nil_append, List.cons_append]
  gi_wp2_with fail
  refine (inW (new_L w)).mono ?_
  rintro e w1 ⟨bn, rfl, hN, hs⟩
  have HN := Lib.hid hN
  have HS := Lib.hid hs
  clear hN hs
  gi_wp2_with fail
  clear hmm
  obtain ⟨w2, hw2⟩ : ∃ w2, w2 = (((w1.alloc (.map #[] 0)).alloc (.map #[] 0)).alloc (.cells #[.map (some w1.heap.size), .map (some (w1.heap.size + 1))] 81)).alloc (.cells #[.int .i64 0, .int .i64 0] 82) := ⟨_, rfl⟩
  rw [← hw2]
  have hz : w.heap.size ≤ w1.heap.size := HS.out.size
  have hs2 : Step [] w1 w2 := by rw [hw2]; exact (((Step.alloc _ _).trans (Step.alloc _ _)).trans (Step.alloc _ _)).trans (Step.alloc _ _)
  have h0 : Noth w bn w1.heap.size 0 0 [] w2 := by
    refine ⟨fun _ => [], fun _ _ => 0, Fair.start, ⟨HN.out.same hs2, ?_, ?_, ?_, ?_, HS.out.trans hs2, hz, by simp, by simp⟩⟩
    · rw [hw2]; exact (MapF.made w1).keep (((Step.alloc _ _).trans (Step.alloc _ _)).trans (Step.alloc _ _)) (List.not_mem_nil)
    · rw [hw2]; have := (MapF.made (w1.alloc (.map #[] 0))).keep ((Step.alloc (S := []) _ (.cells #[.map (some w1.heap.size), .map (some (w1.heap.size + 1))] 81)).trans (Step.alloc _ (.cells #[.int .i64 0, .int .i64 0] 82))) (List.not_mem_nil); rwa [World.size_alloc] at this
    · rw [hw2]; simp only [heap_alloc_get, World.size_alloc]; repeat first | rfl | rw [if_pos (by omega)] | rw [if_neg (by omega)] | rw [if_pos trivial]
    · rw [hw2]; simp only [heap_alloc_get, World.size_alloc]; repeat first | rfl | rw [if_pos (by omega)] | rw [if_neg (by omega)] | rw [if_pos trivial]
  have H0 := Lib.hid h0
  obtain ⟨m0, hm0⟩ : ∃ m0, m0 = w1.heap.size := ⟨_, rfl⟩
  rw [← hm0] at H0 hz ⊢
  clear h0 hs2 hw2 HN HS hm0
  refine wpIn_loop (NothI q N cap bn m0 w) (fun a _ => N - (intOf (a.tmps.getD 28 undef)).toNat) ?start ?round
  case start => exact NothI.intro 0 0 [] ⟨by omega, by omega⟩ H0.out (by kernel_rfl) rfl
  case round =>
    rintro a W ⟨U, k, sent, Ds, ⟨hkN, hk200⟩, hI, rfl⟩
    simp only [nothFrame]
    clear H0
    have HI := Lib.hid hI
    clear hI
    by_cases hlt : k < N
    · obtain ⟨x, y, b, v0, v1, v2, hx, hy⟩ := HV.out k hlt
      have hs : Step [] w W := HI.out.step
      obtain ⟨g, off, rfl, hc⟩ : ∃ g off, q = some ⟨g, off, none⟩ ∧ ∀ j, j < 3 → W.cell? ⟨g, off + (k * 3 + j), none⟩ = some (V k j) := by
        rcases HR.out with h0 | ⟨g, off, rfl, hc⟩
        · omega
        · exact ⟨g, off, rfl, fun j hj => step_cell hs (hc k hlt j hj)⟩
      have c0 : W.cell? ⟨g, off + k * 3, none⟩ = some (.int .u8 (x : Int)) := (hc 0 (by omega)).trans (by rw [v0])
      have c1 : W.cell? ⟨g, off + k * 3 + 1, none⟩ = some (.int .u8 (y : Int)) := (hc 1 (by omega)).trans (by rw [v1])
      have c2 : W.cell? ⟨g, off + k * 3 + 2, none⟩ = some (.bool b) := (hc 2 (by omega)).trans (by rw [v2])
      by_cases h200 : k = 200
      · have b200 : ((k : Int) == 200) = true := by simp; omega
        clear hc v0 v1 v2 hx hy hs h200
        gi_wp2_with fail
        refine (inW (netWakes_any _)).mono ?_
        rintro e w9 ⟨rfl, hs9⟩
        have H9 := Lib.hid (HI.out.same ((Step.alloc _ _).trans hs9))
        clear hs9
        gi_wp2_with fail
        obtain ⟨L, f, hF, hM⟩ := H9.out
        refine leaves_marks (B := w.heap.size) (results_tmp rfl _ _) Ds _ hM.ds hM.nd ?_
        intro w' hc
        exact ⟨rfl, hM.st.calm hc (Nat.le_refl _)⟩
      have b200 : ((k : Int) == 200) = false := by simp; omega
      have HX := Lib.hid (And.intro hx hy)
      have H200 := Lib.hid (show k < 200 by omega)
      clear hc v0 v1 v2 hx hy h200 hs
      gi_upto_if 36 with (fail)
      have H1 := Lib.hid (HI.out.same (Step.alloc W (.cells #[.int .u8 (x : Int), .int .u8 (y : Int), .bool b] 84)))
      have hact : (W.alloc (.cells #[.int .u8 (x : Int), .int .u8 (y : Int), .bool b] 84)).heap[W.heap.size]? = some (.cells #[.int .u8 (x : Int), .int .u8 (y : Int), .bool b] 84) := by rw [heap_alloc_get, if_pos rfl]
      clear HI
      generalize W.alloc (.cells #[.int .u8 (x : Int), .int .u8 (y : Int), .bool b] 84) = W1 at *
      generalize W.heap.size = cb at *
      obtain ⟨way, hway⟩ : ∃ way : Nat, way = if b = true then 1 else 0 := ⟨_, rfl⟩
      have HWY := Lib.hid (show way < 2 by rw [hway]; exact ite_way b)
      gi_cut [9] from 229 (fun v W' => v = .int .i64 (way : Int) ∧ W1 = W')
      case first =>
        cases b
        all_goals
          simp at hway
          subst hway
          gi_wp2_with fail
          gi_meet
          case rel => exact ⟨rfl, rfl⟩
      case rest =>
      obtain ⟨rfl, rfl⟩ := hcut
      clear hway c0 c1 c2
      have c0 : W1.cell? ⟨cb, 0, none⟩ = some (.int .u8 (x : Int)) := cells_cell hact rfl
      have c1 : W1.cell? ⟨cb, 1, none⟩ = some (.int .u8 (y : Int)) := cells_cell hact rfl
      have hact2 : cb < W1.heap.size := heap_lt hact
      have hxb : (x : Int) ≤ 255 := by have := HX.out; omega
      have hyb : (y : Int) ≤ 255 := by have := HX.out; omega
      gi_upto_region 12 with (fail)
      have H2 := Lib.hid (H1.out.same (Step.alloc W1 (.cells #[.int .i64 (y : Int)] 3)))
      have hat : Boxed (W1.alloc (.cells #[.int .i64 (y : Int)] 3)) W1.heap.size 3 (.int .i64 (y : Int)) := Boxed.new _ _ _
      have hact3 := obj_step hact (Step.alloc (S := []) W1 (.cells #[.int .i64 (y : Int)] 3)) (by simp)
      clear H1 hact c0 c1 hact2
      generalize W1.alloc (.cells #[.int .i64 (y : Int)] 3) = W2 at *
      generalize W1.heap.size = ab at *
      have c0 : W2.cell? ⟨cb, 0, none⟩ = some (.int .u8 (x : Int)) := cells_cell hact3 rfl
      have HAT := Lib.hid hat
      clear hat hact3
      gi_cut [41] from 229 (fun v W' => v = .int .u8 (x : Int) ∧ W2 = W')
      case first =>
        gi_wp2_with fail
        gi_meet
        case rel => exact ⟨rfl, rfl⟩
      case rest =>
      obtain ⟨rfl, rfl⟩ := hcut
      clear c0
      gi_step
      refine wpIn_cutR (NothT (some ⟨g, off, none⟩) N cap bn m0 k w) ?tail ?act
      case tail =>
        rintro a W3 ⟨U, sent, Ds, hI, rfl⟩
        simp only [nothFrame]
        clear HAT H2
        have HI := Lib.hid hI
        obtain ⟨L, f, hF, hM⟩ := hI
        have cw0 : W3.cell? ⟨m0 + 1 + 1 + 1, 0, none⟩ = some (.int .i64 ((L 0).length : Int)) := (hM.cellW (way := 0) (by omega)).1
        have cw1 : W3.cell? ⟨m0 + 1 + 1 + 1, 1, none⟩ = some (.int .i64 ((L 1).length : Int)) := (hM.cellW (way := 1) (by omega)).1
        have q0 := fun n => waits_L w.heap.size bn 0 (by omega) _ (W3.drewN n) (hM.net.same (Step.drewN W3 n))
        have q1 := fun n => waits_L w.heap.size bn 1 (by omega) _ (W3.drewN n) (hM.net.same (Step.drewN W3 n))
        simp only [List.length_map] at q0 q1
        have Q0 := Lib.hid (show ∀ n, Calls Try.prog 34 #[.pointer (some ⟨bn, 0, none⟩), .int .i64 0] (W3.drewN n) fun e w' => e = .returned (.int .i64 ((L 0).length : Int)) ∧ w' = W3.drewN n from fun n => (q0 n).mono fun e w' h => ⟨h.1, h.2.symm⟩)
        have Q1 := Lib.hid (show ∀ n, Calls Try.prog 34 #[.pointer (some ⟨bn, 0, none⟩), .int .i64 1] (W3.drewN n) fun e w' => e = .returned (.int .i64 ((L 1).length : Int)) ∧ w' = W3.drewN n from fun n => (q1 n).mono fun e w' h => ⟨h.1, h.2.symm⟩)
        clear hF hM q0 q1
        gi_wp2_with fail
        gi_quiet ((first | (gi_at_call 34; with_reducible exact CallsIn.quiet_of_same (inW (Q0.out _))) | (gi_at_call 34; with_reducible exact CallsIn.quiet_of_same (inW (Q1.out _)))))
        have HI2 := Lib.hid (HI.out.same (Step.drewN W3 nq))
        have hk1 : k + 1 ≤ N ∧ k + 1 ≤ 200 := ⟨hlt, H200.out⟩
        have HK1 := Lib.hid hk1
        clear HI Q0 Q1 cw0 cw1 hk1
        gi_wp2_with fail
        refine ⟨NothI.intro (k + 1) sent Ds HK1.out HI2.out (by kernel_rfl) rfl, ?_⟩
        simp [intOf]
        omega
      case act =>
      gi_upto_if 42 with (fail)
      gi_cut [42] from 229 (fun v W' => v = .bool (decide (x < 2)) ∧ W2 = W')
      case first =>
        rcases Nat.lt_or_ge x 1 with h | h
        · have e0 : ((x : Int) == 0) = true := by simp; omega
          have HE := Lib.hid (show decide (x < 2) = true by simp; omega)
          clear h
          gi_wp2_with fail
          gi_meet
          case rel => exact ⟨by first | (rw [HE.out]; done) | (rw [HE.out, e0]; done) | (rw [HE.out, e1]; done), rfl⟩
        · have e0 : ((x : Int) == 0) = false := by simp; omega
          rcases Nat.lt_or_ge x 2 with h2 | h2
          · have e1 : ((x : Int) == 1) = true := by simp; omega
            have HE := Lib.hid (show decide (x < 2) = true by simp; omega)
            clear h h2
            gi_wp2_with fail
            gi_meet
            case rel => exact ⟨by first | (rw [HE.out]; done) | (rw [HE.out, e0]; done) | (rw [HE.out, e1]; done), rfl⟩
          · have e1 : ((x : Int) == 1) = false := by simp; omega
            have HE := Lib.hid (show decide (x < 2) = false by simp; omega)
            clear h h2
            gi_wp2_with fail
            gi_meet
            case rel => exact ⟨by first | (rw [HE.out]; done) | (rw [HE.out, e0]; done) | (rw [HE.out, e1]; done), rfl⟩
      case rest =>
      obtain ⟨rfl, rfl⟩ := hcut
      by_cases hx2 : x < 2
      · have ex : decide (x < 2) = true := by simpa using hx2
        rw [ex]
        clear hx2 ex
        obtain ⟨L, f, hF, hM⟩ := H2.out
        obtain ⟨s1, hs1⟩ : ∃ s1, s1 = sent + 1 := ⟨_, rfl⟩
        obtain ⟨lw, hlw⟩ : ∃ lw, lw = (L way).length := ⟨_, rfl⟩
        obtain ⟨fv, hfv⟩ : ∃ fv, fv = f way s1 := ⟨_, rfl⟩
        have hsk : (sent : Int) ≤ 200 := by have := hF.ks; omega
        have hs1k : s1 ≤ 201 := by have := hF.ks; omega
        have hfk : (fv : Int) ≤ 200 := by have := hF.fk way HWY.out s1; omega
        have hlk : lw ≤ 64 := by rw [hlw]; exact hF.ln way HWY.out
        have hwi : (way : Int) < 2 := by have := HWY.out; omega
        have ew : (way : Int) % 256 = (way : Int) := by omega
        have es : (sent : Int) + 1 = (s1 : Int) := by omega
        have ed : (s1 : Int) / 256 = 0 := by omega
        have HF := Lib.hid hF
        have HM := Lib.hid hM
        have HS1 := Lib.hid hs1
        have HLW := Lib.hid hlw
        have HFV := Lib.hid hfv
        have EW := Lib.hid ew
        have ES := Lib.hid es
        have ED := Lib.hid ed
        clear hF hM hs1 hlw hfv ew es ed H2
        gi_wp2_with fail
        simp only [ES.out, ED.out, EW.out]
        by_cases hfull : lw < 64
        · have hc := send_L w.heap.size bn way HWY.out (fun way => (L way).map (dat way)) (.slice (some ⟨W2.heap.size, 0, none⟩) 4 4) (dat way (s1, 0)) (u8s_one _) (by simp [dat, u8s]) (by rw [List.length_map, ← HLW.out]; exact hfull) (W2.alloc (.cells #[.int .u8 (way : Int), .int .u8 0, .int .u8 (s1 : Int), .int .u8 0] 5)) ((HM.out.same (Step.alloc _ _)).net) (reads_lit W2 #[.int .u8 (way : Int), .int .u8 0, .int .u8 (s1 : Int), .int .u8 0] 4 rfl (by omega))
          refine (inW hc).mono ?_
          clear hc
          rintro e w4 ⟨rfl, hN, hs, hby⟩
          have hM4 : Mem w bn m0 k (upd L way (L way ++ [(s1, 0)])) f (fun way => (L way).length) Ds w4 := (HM.out.same (Step.alloc _ _)).turn (X := L way ++ [(s1, 0)]) (by rw [List.map_append]; exact hN) hs
          have cM := hM4.cellM HWY.out
          have cW : w4.cell? ⟨m0 + 1 + 1 + 1, way, none⟩ = some (.int .i64 (lw : Int)) := by rw [HLW.out]; exact (hM4.cellW HWY.out).1
          have hlook := (hM4.map HWY.out).look (k := s1) (by omega)
          rw [← HFV.out] at hlook
          obtain ⟨w5, hput, hM5, hs5⟩ := hM4.put HWY.out (k := s1) (x := fv + 1) (by omega) (by omega) (by omega)
          rw [show ((fv + 1 : Nat) : Int) = (fv : Int) + 1 by omega] at hput
          have fW5 := (hM5.cellW HWY.out).2
          have cW5 : w5.cell? ⟨m0 + 1 + 1 + 1, way, none⟩ = some (.int .i64 (lw : Int)) := by rw [HLW.out]; exact (hM5.cellW HWY.out).1
          have hM6 := hM5.set HWY.out (lw + 1)
          rw [show ((lw + 1 : Nat) : Int) = (lw : Int) + 1 by omega] at hM6
          have t64 : ((lw : Int) == 64) = false := by simp; omega
          have HFin := Lib.hid (show Noth w bn m0 (k + 1) s1 Ds (w5.setCell ⟨m0 + 1 + 1 + 1, way, none⟩ (.int .i64 ((lw : Int) + 1))) from by
            refine ⟨_, _, by rw [HS1.out]; exact HF.out.send HWY.out (by rw [← HLW.out]; exact hfull), ?_⟩
            rw [len_upd, ← HS1.out, ← HFV.out, List.length_append, ← HLW.out]
            exact hM6)
          clear hM4 hM5 hM6 hs5 hs hby hN hfull
          gi_wp2_with fail
          exact NothT.intro s1 Ds HFin.out (by kernel_rfl) rfl
        · have hfull : 64 ≤ lw := by omega
          have hc := sendFull_L w.heap.size bn way HWY.out (fun way => (L way).map (dat way)) (.slice (some ⟨W2.heap.size, 0, none⟩) 4 4) (dat way (s1, 0)) (u8s_one _) (by simp [dat, u8s]) (by rw [List.length_map, ← HLW.out]; exact hfull) (by rw [List.length_map, ← HLW.out]; omega) (W2.alloc (.cells #[.int .u8 (way : Int), .int .u8 0, .int .u8 (s1 : Int), .int .u8 0] 5)) ((HM.out.same (Step.alloc _ _)).net) (reads_lit W2 #[.int .u8 (way : Int), .int .u8 0, .int .u8 (s1 : Int), .int .u8 0] 4 rfl (by omega)) (v5_new _ _ _ _ _)
          refine (inW hc).mono ?_
          clear hc
          rintro e w4 ⟨rfl, hN, hs, hby⟩
          have hM4 : Mem w bn m0 k (upd L way ((L way).eraseIdx 0 ++ [(s1, 0)])) f (fun way => (L way).length) Ds w4 := (HM.out.same (Step.alloc _ _)).turn (X := (L way).eraseIdx 0 ++ [(s1, 0)]) (by rw [List.map_append, ← erase_map]; exact hN) hs
          have cM := hM4.cellM HWY.out
          have cW : w4.cell? ⟨m0 + 1 + 1 + 1, way, none⟩ = some (.int .i64 (lw : Int)) := by rw [HLW.out]; exact (hM4.cellW HWY.out).1
          have hlook := (hM4.map HWY.out).look (k := s1) (by omega)
          rw [← HFV.out] at hlook
          obtain ⟨w5, hput, hM5, hs5⟩ := hM4.put HWY.out (k := s1) (x := fv + 1) (by omega) (by omega) (by omega)
          rw [show ((fv + 1 : Nat) : Int) = (fv : Int) + 1 by omega] at hput
          have t64 : ((lw : Int) == 64) = true := by simp; omega
          have HFin := Lib.hid (show Noth w bn m0 (k + 1) s1 Ds w5 from by
            refine ⟨_, _, by rw [HS1.out]; exact HF.out.lost HWY.out, ?_⟩
            rw [← HS1.out, ← HFV.out, len_same L way _ (by rw [List.length_append, List.length_eraseIdx_of_lt (by rw [← HLW.out]; omega), List.length_singleton, ← HLW.out]; omega)]
            exact hM5)
          clear hM4 hM5 hs5 hs hby hN hfull
          gi_wp2_with fail
          exact NothT.intro s1 Ds HFin.out (by kernel_rfl) rfl
      · have ex : decide (x < 2) = false := by simpa using hx2
        rw [ex]
        clear ex
        have e0 : ((x : Int) == 0) = false := by simp; omega
        have e1 : ((x : Int) == 1) = false := by simp; omega
        have HX2 := Lib.hid (show 2 ≤ x by omega)
        clear hx2
        gi_upto_if 84 with (fail)
        gi_cut [84] from 229 (fun v W' => v = .bool (decide (x < 4)) ∧ W2 = W')
        case first =>
          clear e0 e1
          rcases Nat.lt_or_ge x 3 with h | h
          · have e2 : ((x : Int) == 2) = true := by have := HX2.out; simp; omega
            have HE := Lib.hid (show decide (x < 4) = true by simp; omega)
            clear h
            gi_wp2_with fail
            gi_meet
            case rel => exact ⟨by first | (rw [HE.out]; done) | (rw [HE.out, e2]; done), rfl⟩
          · have e2 : ((x : Int) == 2) = false := by simp; omega
            rcases Nat.lt_or_ge x 4 with h2 | h2
            · have e3 : ((x : Int) == 3) = true := by simp; omega
              have HE := Lib.hid (show decide (x < 4) = true by simp; omega)
              clear h h2
              gi_wp2_with fail
              gi_meet
              case rel => exact ⟨by first | (rw [HE.out]; done) | (rw [HE.out, e3]; done), rfl⟩
            · have e3 : ((x : Int) == 3) = false := by simp; omega
              have HE := Lib.hid (show decide (x < 4) = false by simp; omega)
              clear h h2
              gi_wp2_with fail
              gi_meet
              case rel => exact ⟨by first | (rw [HE.out]; done) | (rw [HE.out, e3]; done), rfl⟩
        case rest =>
        obtain ⟨rfl, rfl⟩ := hcut
        obtain ⟨L, f, hF, hM⟩ := H2.out
        obtain ⟨lw, hlw⟩ : ∃ lw, lw = (L way).length := ⟨_, rfl⟩
        have hlk : lw ≤ 64 := by rw [hlw]; exact hF.ln way HWY.out
        have hwi : (way : Int) < 2 := by have := HWY.out; omega
        have HF := Lib.hid hF
        have HM := Lib.hid hM
        have HLW := Lib.hid hlw
        have cA := HAT.out.cell
        clear hF hM hlw H2
        by_cases hx4 : x < 4
        · have ex : decide (x < 4) = true := by simpa using hx4
          rw [ex]
          clear hx4 ex HX2
          gi_wp2_with fail
          by_cases hy : y < lw
          · obtain ⟨p, hp⟩ : ∃ p, (L way)[y]? = some p := ⟨_, List.getElem?_eq_getElem (by rw [← HLW.out]; exact hy)⟩
            refine (inW (deliver_L w.heap.size bn way y HWY.out (fun way => (L way).map (dat way)) (by rw [List.length_map, ← HLW.out]; exact hy) (by rw [List.length_map, ← HLW.out]; omega) W2 HM.out.net)).mono ?_
            rintro e w4 ⟨qa, na, ca, cc, hcc, rfl, ho, hN, hs, hby⟩
            obtain rfl : dat way p = cc := by rw [List.getElem?_map, hp] at hcc; exact Option.some.inj hcc
            have hM4 : Mem w bn m0 k (upd L way ((L way).eraseIdx y)) f (fun way => (L way).length) Ds w4 := HM.out.turn (X := (L way).eraseIdx y) (by rw [← erase_map]; exact hN) hs
            obtain ⟨id, xx⟩ := p
            obtain ⟨fv, hfv⟩ : ∃ fv, fv = f way id := ⟨_, rfl⟩
            have hel := HF.out.el way HWY.out _ (List.mem_of_getElem? hp)
            have htk := HF.out.take HWY.out hp
            obtain ⟨gb, ob, cb2, hv, hcl, hcm2, hc0⟩ := ho.at (j := 0) (x := .int .u8 (way : Int)) rfl
            obtain ⟨_, _, _, hv1, _, _, hc1⟩ := ho.at (j := 1) (x := .int .u8 0) rfl
            obtain ⟨_, _, _, hv2, _, _, hc2⟩ := ho.at (j := 2) (x := .int .u8 (id : Int)) rfl
            obtain ⟨_, _, _, hv3, _, _, hc3⟩ := ho.at (j := 3) (x := .int .u8 (xx : Int)) rfl
            rw [hv] at hv1 hv2 hv3
            cases hv1; cases hv2; cases hv3
            injection hv with f1 f2 f3
            subst f1
            obtain rfl : na = 4 := f2
            rw [Nat.add_zero] at hc0
            have cA4 : w4.cell? ⟨ab, 0, none⟩ = some (.int .i64 (y : Int)) := (show Boxed w4 ab 3 _ from hs.keep HAT.out rfl).cell
            have cW : w4.cell? ⟨m0 + 1 + 1 + 1, way, none⟩ = some (.int .i64 (lw : Int)) := by rw [HLW.out]; exact (hM4.cellW HWY.out).1
            have ty : ((y : Int) < (lw : Int)) = True := by simp; omega
            have HH := Lib.hid (And.intro hM4 (And.intro htk hel))
            have HP := Lib.hid hp
            have HFV := Lib.hid hfv
            clear hM4 htk hel hp hfv ho hN hs hby hcc hy f3
            gi_wp2_with fail
            gi_quiet (fail)
            obtain ⟨w5, hw5⟩ : ∃ w5, w5 = w4.drewN nq := ⟨_, rfl⟩
            rw [← hw5]
            have cc0 : w5.cell? ⟨gb, ob, none⟩ = some (.int .u8 (way : Int)) := by rw [hw5]; exact hc0
            have cc1 : w5.cell? ⟨gb, ob + 1, none⟩ = some (.int .u8 0) := by rw [hw5]; exact hc1
            have cc2 : w5.cell? ⟨gb, ob + 2, none⟩ = some (.int .u8 (id : Int)) := by rw [hw5]; exact hc2
            have cc3 : w5.cell? ⟨gb, ob + 3, none⟩ = some (.int .u8 (xx : Int)) := by rw [hw5]; exact hc3
            have hM5 := HH.out.1.same (show Step [] w4 w5 by rw [hw5]; exact Step.drewN _ _)
            have HH5 := Lib.hid (And.intro hM5 HH.out.2)
            have hbit := and254 HH.out.2.2.2
            have hid : (id : Int) ≤ 200 := by have := HH.out.2.2.1; have := HF.out.ks; omega
            have hfk : (fv : Int) ≤ 200 := by have := HF.out.fk way HWY.out id; have := HFV.out; omega
            have hfp : 1 ≤ fv := by have := HH.out.2.1.1; have := HFV.out; omega
            have hlp : 1 ≤ lw := by have := (List.getElem?_eq_some_iff.1 HP.out).1; have := HLW.out; omega
            clear hw5 hM5 HH cA4 cW hc0 hc1 hc2 hc3
            gi_wp2_with fail
            clear hbit cc0 cc3
            gi_quiet (fail)
            rw [or0 (show id < 256 by omega)]
            obtain ⟨w6, hw6⟩ : ∃ w6, w6 = w5.drewN nq := ⟨_, rfl⟩
            rw [← hw6]
            have hM6 := HH5.out.1.same (show Step [] w5 w6 by rw [hw6]; exact Step.drewN _ _)
            have cM := hM6.cellM HWY.out
            have hlook := (hM6.map HWY.out).look (k := id) (by omega)
            rw [← HFV.out] at hlook
            obtain ⟨w7, hput, hM7, hs7⟩ := hM6.put HWY.out (k := id) (x := fv - 1) (by omega) (by omega) (by omega)
            rw [show ((fv - 1 : Nat) : Int) = (fv : Int) - 1 by omega] at hput
            have cM7 := hM7.cellM HWY.out
            have hlook7 := (hM7.map HWY.out).look (k := id) (by omega)
            rw [upd_same, upd_same, show ((fv - 1 : Nat) : Int) = (fv : Int) - 1 by omega] at hlook7
            have cW7 : w7.cell? ⟨m0 + 1 + 1 + 1, way, none⟩ = some (.int .i64 (lw : Int)) := by rw [HLW.out]; exact (hM7.cellW HWY.out).1
            have fW7 := (hM7.cellW HWY.out).2
            have hM8 := hM7.set HWY.out (lw - 1)
            rw [show ((lw - 1 : Nat) : Int) = (lw : Int) - 1 by omega] at hM8
            have tf1 : ((fv : Int) - 1 < 0) = False := by simp; omega
            have tf2 : ((fv : Int) < 1) = False := by simp; omega
            have HFin := Lib.hid (show Noth w bn m0 (k + 1) sent Ds (w7.setCell ⟨m0 + 1 + 1 + 1, way, none⟩ (.int .i64 ((lw : Int) - 1))) from by
              refine ⟨_, _, HH5.out.2.1.2, ?_⟩
              rw [len_upd, List.length_eraseIdx_of_lt (List.getElem?_eq_some_iff.1 HP.out).1, ← HLW.out, ← HFV.out]
              exact hM8)
            clear hM6 hM7 hM8 hs7 hw6 HH5 HP cc1 cc2
            gi_wp2_with fail
            exact NothT.intro sent Ds HFin.out (by kernel_rfl) rfl
          · have cW : W2.cell? ⟨m0 + 1 + 1 + 1, way, none⟩ = some (.int .i64 (lw : Int)) := by rw [HLW.out]; exact (HM.out.cellW HWY.out).1
            have ty : ((y : Int) < (lw : Int)) = False := by simp; omega
            refine (inW (deliver_no (some ⟨bn, 0, none⟩) (way : Int) (y : Int) 6 (.inr (.inr rfl)) W2 (noAt_out w.heap.size bn way HWY.out (y : Int) _ (.inr (by rw [List.length_map, ← HLW.out]; omega)) W2 HM.out.net))).mono ?_
            rintro e w' ⟨rfl, rfl⟩
            clear hy
            gi_wp2_with fail
            gi_quiet (fail)
            have HFin := Lib.hid (show Noth w bn m0 (k + 1) sent Ds (W2.drewN nq) from ⟨L, f, HF.out.mono, (HM.out.same (Step.drewN _ _)).mono (Nat.le_succ _)⟩)
            gi_wp2_with fail
            exact NothT.intro sent Ds HFin.out (by kernel_rfl) rfl
        · have ex : decide (x < 4) = false := by simpa using hx4
          rw [ex]
          clear ex HX2
          have e2 : ((x : Int) == 2) = false := by simp; omega
          have e3 : ((x : Int) == 3) = false := by simp; omega
          by_cases h4 : x = 4
          · have e4 : ((x : Int) == 4) = true := by simp; omega
            clear hx4 h4
            gi_wp2_with fail
            have hib : Boxed (W2.alloc (.cells #[.int .i64 0] 3)) W2.heap.size 3 (.int .i64 0) := Boxed.new _ _ _
            have hM3 := HM.out.same (Step.alloc W2 (.cells #[.int .i64 0] 3))
            have hA3 := boxed_step HAT.out (Step.alloc (S := []) W2 (.cells #[.int .i64 0] 3)) (by simp)
            have hlt0 := heap_lt HM.out.aw
            have hlt1 := heap_lt (show W2.heap[ab]? = some _ from HAT.out)
            have hz3 : (W2.alloc (.cells #[.int .i64 0] 3)).heap.size = W2.heap.size + 1 := by simp
            generalize W2.alloc (.cells #[.int .i64 0] 3) = W3 at *
            generalize W2.heap.size = ib at *
            refine (inW (netAll_any (some ⟨bn, 0, none⟩) (way : Int) W3)).mono ?_
            rintro e w4 ⟨rfl, hw4⟩
            obtain ⟨r, e, hNA⟩ := hM3.net
            have hs4 : Step [] W3 w4 := by rw [← hw4]; exact (Step.alloc _ _).trans (Step.alloc _ _)
            obtain ⟨ba, hba⟩ : ∃ b, b = W3.heap.size := ⟨_, rfl⟩
            have hG0 : Doub w bn m0 k way y ab ib ba L f Ds r e 0 w4 := by
              refine ⟨boxed_step hib hs4 (by simp), hNA.same hs4, hM3.same hs4, boxed_step hA3 hs4 (by simp), ?_, ?_⟩
              · rw [← hw4, hba]; simp only [Boxed, heap_alloc_get, World.size_alloc]; repeat first | rfl | rw [if_pos (by omega)] | rw [if_neg (by omega)] | rw [if_pos trivial]
              · rw [← hw4, hba]; simp only [Boxed, heap_alloc_get, World.size_alloc]; repeat first | rfl | rw [if_pos (by omega)] | rw [if_neg (by omega)] | rw [if_pos trivial]
            have hz4 : w4.heap.size = ba + 2 := by rw [← hw4, hba]; simp
            rw [← hba]
            have hw0 : w.heap.size ≤ m0 := hM3.lo
            have hbi : ba = ib + 1 := by rw [hba]; exact hz3
            have hDD : ∀ D ∈ Ds, D < w4.heap.size := fun D hD => heap_lt ((hM3.same hs4).ds D hD).2
            have HG := Lib.hid hG0
            have HDD := Lib.hid hDD
            clear hib hM3 hA3 hw4 hNA hs4 hG0 hba hDD hz3 cA
            subst hbi
            have HZ4 := Lib.hid hz4
            clear hz4
            gi_wp2_with (gi_at_call 35; refine (inW (safe_any _ _ _)).mono ?_; rintro e w' ⟨rfl, rfl⟩)
            have hall : ∀ (j : Nat) c, ((L way).map (dat way))[j]? = some c → (∀ u ∈ c, u.oneCell' = true) ∧ c.length < 1000000 := by
              intro j c hc
              rw [List.getElem?_map] at hc
              cases h : (L way)[j]? with
              | none => rw [h] at hc; cases hc
              | some p => rw [h] at hc; cases hc; exact ⟨u8s_one _, by simp [dat, u8s]⟩
            have HALL := Lib.hid hall
            have hIc : ∀ j A C, Doub w bn m0 k way y ab ib (ib + 1) L f Ds r e j A → Calm w4.heap.size A C → Doub w bn m0 k way y ab ib (ib + 1) L f Ds r e j C := fun j A C h hc => h.calm hc (by rw [HZ4.out]; omega) HDD.out
            have HIC := Lib.hid hIc
            clear hall
            refine range_outer2S (σ := Nat × Value × Value) [] rfl enters50 (by simp) rfl rfl rfl (fun s => .int .i64 (s.1 : Int)) (fun s => s.2.1)
              (AllMid w4.heap.size way e (fun way => (L way).map (dat way)) (Doub w bn m0 k way y ab ib (ib + 1) L f Ds r e)) (AllPn w4.heap.size way e (Doub w bn m0 k way y ab ib (ib + 1) L f Ds r e)) (fun _ _ _ => False)
              (Doub w bn m0 k way y ab ib (ib + 1) L f Ds r e 0) (Doub w bn m0 k way y ab ib (ib + 1) L f Ds r e ((L way).map (dat way)).length)
              (allMid_abide hIc) (allPn_abide hIc) (fun _ => abide_false _) (hIc 0) (hIc _) HG.out
              (fun l rc Jx W1 X1 hsz hX hrc hrb hJx hY h0 hr0 => netAll_gives w.heap.size w4.heap.size bn way (ib + 1) (ib + 1 + 1) HWY.out r e (fun way => (L way).map (dat way)) HALL.out (by rw [List.length_map, ← HLW.out]; exact hlk) (Doub w bn m0 k way y ab ib (ib + 1) L f Ds r e) HIC.out (fun k W h => ⟨h.2.2.2.2.1.cell, h.2.2.2.2.2.cell, h.2.1⟩) l rc Jx W1 X1 hsz hX hrc hrb hJx hY h0 hr0) ?body ?done ?stop
            case stop => exact fun D c s W _ h _ => h.elim
            case body =>
              clear hIc
              rintro lr ⟨j, vk, row⟩ W hl _ ⟨hj, hS, hrow, c, hc, ho⟩
              have hj' : j < ((L way).map (dat way)).length := hj
              have hS' : Doub w bn m0 k way y ab ib (ib + 1) L f Ds r e j W := hS
              have hrow' : OwnAt w4.heap.size W 68 row ((e way).map encS) := hrow
              have hc' : ((L way).map (dat way))[j]? = some c := hc
              have ho' : OwnAt w4.heap.size W 5 vk c := ho
              clear hj hS hrow hc ho
              have cA := hS'.2.2.2.1.cell
              by_cases hjy : j = y
              · subst hjy
                obtain ⟨p, hp⟩ : ∃ p, (L way)[j]? = some p := ⟨_, List.getElem?_eq_getElem (by simpa using hj')⟩
                obtain ⟨id, xx⟩ := p
                obtain rfl : dat way (id, xx) = c := by rw [List.getElem?_map, hp] at hc'; exact Option.some.inj hc'
                obtain ⟨gb, ob, cb2, hv, hcl, hcm2, hc1⟩ := ho'.at (j := 1) (x := .int .u8 0) rfl
                obtain ⟨_, _, _, hv2, _, _, hc2⟩ := ho'.at (j := 2) (x := .int .u8 (id : Int)) rfl
                rw [hv] at hv2
                cases hv2
                subst hv
                have hcl : 4 ≤ cb2 := hcl
                have hcm2 : cb2 ≤ 9223372036854775807 := by unfold maxLen at hcm2; omega
                have hne : ib ≠ gb := by
                  obtain ⟨_, _, cur, hcur⟩ := ho'.block (g := gb) rfl
                  exact ne_types (show W.heap[ib]? = some _ from hS'.1) hcur (by decide)
                have HNE := Lib.hid hne
                have HS' := Lib.hid (And.intro hS' (And.intro hp hrow'))
                clear hne
                have hid : (id : Int) ≤ 200 := by have := HF.out.el way HWY.out _ (List.mem_of_getElem? hp); have := HF.out.ks; omega
                have cI := hS'.1.cell
                have fI := hS'.1.frozen
                clear hS' hp hrow' ho' hc' hj'
                simp [frame2]
                have hlen4 : (dat way (id, xx)).length = 4 := rfl
                rw [hlen4]
                have hor : bits BinOp.or IntKind.i64 (IntKind.i64.wrap (IntKind.i64.wrap 0 * 256)) (IntKind.i64.wrap (id : Int)) = (id : Int) := by
                  rw [show IntKind.i64.wrap (IntKind.i64.wrap 0 * 256) = 0 by decide +kernel, show IntKind.i64.wrap (id : Int) = (id : Int) by rw [IntKind.wrap_i64]; omega]
                  exact or0 (by omega)
                have HOR := Lib.hid hor
                clear hlen4 hor
                gi_wp2_with fail
                refine wpIn_region_round (by kernel_rfl) (by kernel_rfl) (fun X => X.cell? ⟨gb, ob + 1, none⟩ = some (.int .u8 0) ∧ X.cell? ⟨gb, ob + 2, none⟩ = some (.int .u8 (id : Int))) ?_
                have hHeld : (fun X : World => X.cell? ⟨gb, ob + 1, none⟩ = some (.int .u8 0) ∧ X.cell? ⟨gb, ob + 2, none⟩ = some (.int .u8 (id : Int))) W.drew := ⟨hc1, hc2⟩
                refine wpAnyH_take (i := 0) (v := ?v0_1) rfl (by kernel_rfl) (by kernel_rfl) (by kernel_rfl) (fun _ _ _ h => h) (Or.inl ⟨by rfl, ?y0_1⟩) hHeld ?r0_1
                case y0_1 => ((try simp only [List.getElem_toArray, List.getElem_cons_succ, List.getElem_cons_zero]); intro w hSw; obtain ⟨hSw1, hSw2⟩ := hSw; go_simp; first | done | with_reducible rfl)
                (try simp only [Act.put, List.getElem_toArray, List.getElem_cons_succ, List.getElem_cons_zero, List.setIfInBounds_toArray, List.set_cons_zero, List.set_cons_succ])
                refine wpAnyH_take (i := 1) (v := ?v1_2) rfl (by kernel_rfl) (by kernel_rfl) (by kernel_rfl) (fun _ _ _ h => h) (Or.inl ⟨by rfl, ?y1_2⟩) hHeld ?r1_2
                case y1_2 => ((try simp only [List.getElem_toArray, List.getElem_cons_succ, List.getElem_cons_zero]); intro w hSw; obtain ⟨hSw1, hSw2⟩ := hSw; go_simp; first | done | with_reducible rfl)
                (try simp only [Act.put, List.getElem_toArray, List.getElem_cons_succ, List.getElem_cons_zero, List.setIfInBounds_toArray, List.set_cons_zero, List.set_cons_succ])
                refine wpAnyH_take (i := 2) (v := ?v2_3) rfl (by kernel_rfl) (by kernel_rfl) (by kernel_rfl) (fun _ _ _ h => h) (Or.inl ⟨by rfl, ?y2_3⟩) hHeld ?r2_3
                case y2_3 => ((try simp only [List.getElem_toArray, List.getElem_cons_succ, List.getElem_cons_zero]); intro w hSw; obtain ⟨hSw1, hSw2⟩ := hSw; go_simp; first | done | with_reducible rfl)
                (try simp only [Act.put, List.getElem_toArray, List.getElem_cons_succ, List.getElem_cons_zero, List.setIfInBounds_toArray, List.set_cons_zero, List.set_cons_succ])
                refine wpAnyH_take (i := 3) (v := ?v3_4) rfl (by kernel_rfl) (by kernel_rfl) (by kernel_rfl) (fun _ _ _ h => h) (Or.inl ⟨by rfl, ?y3_4⟩) hHeld ?r3_4
                case y3_4 => ((try simp only [List.getElem_toArray, List.getElem_cons_succ, List.getElem_cons_zero]); intro w hSw; obtain ⟨hSw1, hSw2⟩ := hSw; go_simp; first | done | with_reducible rfl)
                (try simp only [Act.put, List.getElem_toArray, List.getElem_cons_succ, List.getElem_cons_zero, List.setIfInBounds_toArray, List.set_cons_zero, List.set_cons_succ])
                refine wpAnyH_take (i := 4) (v := ?v4_5) rfl (by kernel_rfl) (by kernel_rfl) (by kernel_rfl) (fun _ _ _ h => h) (Or.inl ⟨by rfl, ?y4_5⟩) hHeld ?r4_5
                case y4_5 => ((try simp only [List.getElem_toArray, List.getElem_cons_succ, List.getElem_cons_zero]); intro w hSw; obtain ⟨hSw1, hSw2⟩ := hSw; go_simp; first | done | with_reducible rfl)
                (try simp only [Act.put, List.getElem_toArray, List.getElem_cons_succ, List.getElem_cons_zero, List.setIfInBounds_toArray, List.set_cons_zero, List.set_cons_succ])
                refine wpAnyH_take (i := 5) (v := ?v5_6) rfl (by kernel_rfl) (by kernel_rfl) (by kernel_rfl) (fun _ _ _ h => h) (Or.inl ⟨by rfl, ?y5_6⟩) hHeld ?r5_6
                case y5_6 => ((try simp only [List.getElem_toArray, List.getElem_cons_succ, List.getElem_cons_zero]); intro w hSw; obtain ⟨hSw1, hSw2⟩ := hSw; go_simp; first | done | with_reducible rfl)
                (try simp only [Act.put, List.getElem_toArray, List.getElem_cons_succ, List.getElem_cons_zero, List.setIfInBounds_toArray, List.set_cons_zero, List.set_cons_succ])
                refine wpAnyH_take (i := 6) (v := ?v6_7) rfl (by kernel_rfl) (by kernel_rfl) (by kernel_rfl) (fun _ _ _ h => h) (Or.inl ⟨by rfl, ?y6_7⟩) hHeld ?r6_7
                case y6_7 => ((try simp only [List.getElem_toArray, List.getElem_cons_succ, List.getElem_cons_zero]); intro w hSw; obtain ⟨hSw1, hSw2⟩ := hSw; go_simp; first | done | with_reducible rfl)
                (try simp only [Act.put, List.getElem_toArray, List.getElem_cons_succ, List.getElem_cons_zero, List.setIfInBounds_toArray, List.set_cons_zero, List.set_cons_succ])
                refine wpAnyH_take (i := 7) (v := ?v7_8) rfl (by kernel_rfl) (by kernel_rfl) (by kernel_rfl) (fun _ _ _ h => h) (Or.inl ⟨by rfl, ?y7_8⟩) hHeld ?r7_8
                case y7_8 => ((try simp only [List.getElem_toArray, List.getElem_cons_succ, List.getElem_cons_zero]); intro w hSw; obtain ⟨hSw1, hSw2⟩ := hSw; go_simp; first | done | with_reducible rfl)
                (try simp only [Act.put, List.getElem_toArray, List.getElem_cons_succ, List.getElem_cons_zero, List.setIfInBounds_toArray, List.set_cons_zero, List.set_cons_succ])
                refine wpAnyH_take (i := 8) (v := ?v8_9) rfl (by kernel_rfl) (by kernel_rfl) (by kernel_rfl) (fun _ _ _ h => h) (Or.inl ⟨by rfl, ?y8_9⟩) hHeld ?r8_9
                case y8_9 => ((try simp only [List.getElem_toArray, List.getElem_cons_succ, List.getElem_cons_zero]); intro w hSw; obtain ⟨hSw1, hSw2⟩ := hSw; go_simp; first | done | with_reducible rfl)
                (try simp only [Act.put, List.getElem_toArray, List.getElem_cons_succ, List.getElem_cons_zero, List.setIfInBounds_toArray, List.set_cons_zero, List.set_cons_succ])
                refine wpAnyH_take (i := 9) (v := ?v9_10) rfl (by kernel_rfl) (by kernel_rfl) (by kernel_rfl) (fun _ _ _ h => h) (Or.inl ⟨by rfl, ?y9_10⟩) hHeld ?r9_10
                case y9_10 => ((try simp only [List.getElem_toArray, List.getElem_cons_succ, List.getElem_cons_zero]); intro w hSw; obtain ⟨hSw1, hSw2⟩ := hSw; go_simp; first | done | with_reducible rfl)
                (try simp only [Act.put, List.getElem_toArray, List.getElem_cons_succ, List.getElem_cons_zero, List.setIfInBounds_toArray, List.set_cons_zero, List.set_cons_succ])
                rw [HOR.out]
                refine wpAnyH_ready (rs := [10]) (by kernel_rfl) (by simp) ?_
                refine AllReadyH.cons (o := _) rfl (fun K hK => ?_) AllReadyH.nil
                have cI2 : W.drew.cell? ⟨ib, 0, none⟩ = some (.int .i64 (idOf L way j j : Int)) := cI
                have fI2 : W.drew.frozen? ⟨ib, 0, none⟩ = false := fI
                go_simp
                refine hK.out _ _ ?_ (fun hHeld => ?_)
                · exact ⟨(World.cell?_setCell_far W ⟨ib, 0, none⟩ ⟨gb, ob + 1, none⟩ (.int .i64 (id : Int)) HNE.out).trans hc1, (World.cell?_setCell_far W ⟨ib, 0, none⟩ ⟨gb, ob + 2, none⟩ (.int .i64 (id : Int)) HNE.out).trans hc2⟩
                clear hK K
                (try simp only [Act.put, List.getElem_toArray, List.getElem_cons_succ, List.getElem_cons_zero, List.setIfInBounds_toArray, List.set_cons_zero, List.set_cons_succ])
                refine wpAnyH_done (by kernel_rfl) ?_ _
                obtain ⟨q1, q2, q3⟩ := HS'.out.1.found HS'.out.2.1 (Step.refl _ W) (by omega) (by omega) (by omega) (by omega) (by omega) (by omega) (by omega) (by omega)
                have HQ := Lib.hid (And.intro (HIC.out _ _ _ q1 (Calm.drew _ _)) (And.intro (q2.trans (Step.drew (S := []) _).book) ((q3 _ _ _ HS'.out.2.2).same (Step.drew _))))
                clear q1 q2 q3 hHeld cI2 fI2 cI fI hc1 hc2
                gi_wp2_with fail
                exact ⟨HQ.out.2.1, HQ.out.1, HQ.out.2.2⟩
              · have hjy2 : ((j : Int) == (y : Int)) = false := by simp; omega
                have HS' := Lib.hid (And.intro hS' hrow')
                have HJ := Lib.hid hjy
                clear hS' hrow' ho' hc' hj' hjy
                simp [frame2]
                gi_wp2_with fail
                exact ⟨BookX.refl _ _, HS'.out.1.next HJ.out, HS'.out.2⟩
            case done =>
              intro D w5 hD hG hDd
              clear hIc
              obtain ⟨g1, g2, g3, g4, g5, g6⟩ := hG
              have hM5 : Mem w bn m0 k L f (fun way => (L way).length) (D :: Ds) w5 := { g3 with
                ds := fun D' hD' => by
                  rcases List.mem_cons.1 hD' with rfl | h
                  · exact ⟨by have := HZ4.out; omega, hDd⟩
                  · exact g3.ds D' h
                nd := List.nodup_cons.2 ⟨fun h => by have := HDD.out D h; omega, g3.nd⟩ }
              rw [List.length_map, ← HLW.out] at g1
              have HM5 := Lib.hid hM5
              have HG1 := Lib.hid g1
              have HG4 := Lib.hid g4
              have cA5 := g4.cell
              have cW5 : w5.cell? ⟨m0 + 1 + 1 + 1, way, none⟩ = some (.int .i64 (lw : Int)) := by rw [HLW.out]; exact (hM5.cellW HWY.out).1
              clear g1 g2 g3 g4 g5 g6 hM5 hDd hD HG HM
              gi_wp2_with fail
              by_cases hy : y < lw
              · have ty : ((y : Int) < (lw : Int)) = True := by simp; omega
                obtain ⟨p, hp⟩ : ∃ p, (L way)[y]? = some p := ⟨_, List.getElem?_eq_getElem (by rw [← HLW.out]; exact hy)⟩
                obtain ⟨id, xx⟩ := p
                have hid0 : idOf L way y lw = id := by unfold idOf; rw [if_pos hy, hp]; rfl
                rw [hid0] at HG1
                by_cases hfull : lw < 64
                · have tl : ((lw : Int) < 64) = True := by simp; omega
                  refine (inW (double_L w.heap.size bn way y HWY.out (fun way => (L way).map (dat way)) (dat way (id, xx)) (by rw [List.getElem?_map, hp]; rfl) (u8s_one _) (by simp [dat, u8s]) (by rw [List.length_map, ← HLW.out]; exact hfull) w5 HM5.out.net)).mono ?_
                  rintro e w6 ⟨rfl, hN, hs, hby⟩
                  have hM6 : Mem w bn m0 k (upd L way (L way ++ [(id, xx)])) f (fun way => (L way).length) (D :: Ds) w6 := HM5.out.turn (X := L way ++ [(id, xx)]) (by rw [List.map_append]; exact hN) hs
                  have cA6 := (show Boxed w6 ab 3 _ from hs.keep HG4.out rfl).cell
                  have hI6 : Boxed w6 ib 3 (.int .i64 (id : Int)) := hs.keep HG1.out rfl
                  have cW6 : w6.cell? ⟨m0 + 1 + 1 + 1, way, none⟩ = some (.int .i64 (lw : Int)) := by rw [HLW.out]; exact (hM6.cellW HWY.out).1
                  have HM6 := Lib.hid hM6
                  have HI6 := Lib.hid hI6
                  have HP := Lib.hid hp
                  clear hM6 hI6 hN hs hby hid0 cA5 cW5
                  gi_wp2_with fail
                  gi_quiet (fail)
                  clear cA6 cW6
                  gi_wp2_with fail
                  obtain ⟨w7, hw7⟩ : ∃ w7, w7 = (w6.drewN nq).drew := ⟨_, rfl⟩
                  have hs7 : Step [] w6 w7 := by rw [hw7]; exact (Step.drewN _ _).trans (Step.drew _)
                  have hM7 := HM6.out.same hs7
                  have cI7 : w7.cell? ⟨ib, 0, none⟩ = some (.int .i64 (id : Int)) := (boxed_step HI6.out hs7 (by simp)).cell
                  have cM7 := hM7.cellM HWY.out
                  obtain ⟨fv, hfv⟩ : ∃ fv, fv = f way id := ⟨_, rfl⟩
                  have hidb : (id : Int) ≤ 200 := by have := HF.out.el way HWY.out _ (List.mem_of_getElem? HP.out); have := HF.out.ks; omega
                  have hfk : (fv : Int) ≤ 200 := by have := HF.out.fk way HWY.out id; omega
                  have hlook := (hM7.map HWY.out).look (k := id) (by omega)
                  rw [← hfv] at hlook
                  obtain ⟨w8, hput, hM8, hs8⟩ := hM7.put HWY.out (k := id) (x := fv + 1) (by omega) (by omega) (by omega)
                  rw [show ((fv + 1 : Nat) : Int) = (fv : Int) + 1 by omega] at hput
                  have cW8 : w8.cell? ⟨m0 + 1 + 1 + 1, way, none⟩ = some (.int .i64 (lw : Int)) := by rw [HLW.out]; exact (hM8.cellW HWY.out).1
                  have fW8 := (hM8.cellW HWY.out).2
                  have hM9 := hM8.set HWY.out (lw + 1)
                  rw [show ((lw + 1 : Nat) : Int) = (lw : Int) + 1 by omega] at hM9
                  have hwf : IntKind.i64.wrap ((fv : Int) + 1) = (fv : Int) + 1 := by rw [IntKind.wrap_i64]; omega
                  have HFin := Lib.hid (show Noth w bn m0 (k + 1) sent (D :: Ds) (w8.setCell ⟨m0 + 1 + 1 + 1, way, none⟩ (.int .i64 ((lw : Int) + 1))) from by
                    refine ⟨_, _, HF.out.double HWY.out HP.out (by rw [← HLW.out]; exact hfull), ?_⟩
                    rw [len_upd, List.length_append, ← HLW.out, ← hfv]
                    exact hM9)
                  have HW7 := Lib.hid hw7
                  clear hM7 hM8 hM9 hs7 hs8 hfv HM6 HI6 HP hy hfull hw7
                  refine wpIn_wide.2 ?_
                  refine wp_region_still_tail 6 (by kernel_rfl) (by kernel_rfl) ?_
                  show wpStill Try.prog _ (w6.drewN nq).drew (fun a' => wpList Try.prog _ _ _ a' (w6.drewN nq).drew) _ _
                  rw [← HW7.out]
                  simp only [List.take_succ_cons, List.take_zero, List.drop_succ_cons, List.drop_zero]
                  repeat still_step
                  refine wpStill_nil ?_
                  go_wp2_with fail
                  gi_wp2_with fail
                  exact NothT.intro sent (D :: Ds) HFin.out (by kernel_rfl) rfl
                · have tl : ((lw : Int) < 64) = False := by simp; omega
                  refine (inW (doubleFull_L w.heap.size bn way y HWY.out (fun way => (L way).map (dat way)) (by rw [List.length_map, ← HLW.out]; exact hy) (by rw [List.length_map, ← HLW.out]; omega) w5 HM5.out.net)).mono ?_
                  rintro e w6 ⟨rfl, rfl⟩
                  clear hp hid0 hy hfull
                  gi_wp2_with fail
                  gi_quiet (fail)
                  have HFin := Lib.hid (show Noth w bn m0 (k + 1) sent (D :: Ds) (w5.drewN nq) from ⟨L, f, HF.out.mono, (HM5.out.same (Step.drewN _ _)).mono (Nat.le_succ _)⟩)
                  gi_wp2_with fail
                  exact NothT.intro sent (D :: Ds) HFin.out (by kernel_rfl) rfl
              · have ty : ((y : Int) < (lw : Int)) = False := by simp; omega
                refine (inW (double_no (some ⟨bn, 0, none⟩) (way : Int) (y : Int) 6 (.inr (.inr rfl)) w5 (noAt_out w.heap.size bn way HWY.out (y : Int) _ (.inr (by rw [List.length_map, ← HLW.out]; omega)) w5 HM5.out.net))).mono ?_
                rintro e w6 ⟨rfl, rfl⟩
                clear hy
                gi_wp2_with fail
                gi_quiet (fail)
                have HFin := Lib.hid (show Noth w bn m0 (k + 1) sent (D :: Ds) (w5.drewN nq) from ⟨L, f, HF.out.mono, (HM5.out.same (Step.drewN _ _)).mono (Nat.le_succ _)⟩)
                gi_wp2_with fail
                exact NothT.intro sent (D :: Ds) HFin.out (by kernel_rfl) rfl
          · have e4 : ((x : Int) == 4) = false := by simp; omega
            by_cases h5 : x = 5
            · have e5 : ((x : Int) == 5) = true := by simp; omega
              clear hx4 h4 h5
              have cW : W2.cell? ⟨m0 + 1 + 1 + 1, way, none⟩ = some (.int .i64 (lw : Int)) := by rw [HLW.out]; exact (HM.out.cellW HWY.out).1
              gi_wp2_with fail
              by_cases hy : y < lw
              · obtain ⟨p, hp⟩ : ∃ p, (L way)[y]? = some p := ⟨_, List.getElem?_eq_getElem (by rw [← HLW.out]; exact hy)⟩
                obtain ⟨id, xx⟩ := p
                have hel := HF.out.el way HWY.out _ (List.mem_of_getElem? hp)
                refine (inW (show Calls Try.prog 30 #[.pointer (some ⟨bn, 0, none⟩), .int .i64 (way : Int), .int .i64 (y : Int), .int .i64 24] W2 _ from flip_L w.heap.size bn way y 24 HWY.out (fun way => (L way).map (dat way)) (dat way (id, xx)) xx (by rw [List.getElem?_map, hp]; rfl) rfl (by omega) (by simp [dat, u8s]) (by rw [List.length_map, ← HLW.out]; omega) W2 HM.out.net)).mono ?_
                rintro e w4 ⟨rfl, hN, hs⟩
                obtain ⟨zz, hz, hzb⟩ : ∃ zz, flipV xx 0 = .int .u8 ((zz : Nat) : Int) ∧ zz < 2 := by
                  rcases (show xx = 0 ∨ xx = 1 by omega) with rfl | rfl
                  · exact ⟨1, by unfold flipV; exact congrArg (Value.int .u8) (by decide +kernel), by omega⟩
                  · exact ⟨0, by unfold flipV; exact congrArg (Value.int .u8) (by decide +kernel), by omega⟩
                have hM4 : Mem w bn m0 k (upd L way ((L way).set y (id, zz))) f (fun way => (L way).length) Ds w4 := HM.out.turn (X := (L way).set y (id, zz)) (by rw [List.map_set, show dat way (id, zz) = (dat way (id, xx)).set (24 / 8) (flipV xx (24 % 8)) by rw [show 24 % 8 = 0 from rfl, hz]; rfl]; exact hN) hs
                have cW4 : w4.cell? ⟨m0 + 1 + 1 + 1, way, none⟩ = some (.int .i64 (lw : Int)) := by rw [HLW.out]; exact (hM4.cellW HWY.out).1
                have cA4 : w4.cell? ⟨ab, 0, none⟩ = some (.int .i64 (y : Int)) := (show Boxed w4 ab 3 _ from hs.keep HAT.out rfl).cell
                have ty : ((y : Int) < (lw : Int)) = True := by simp; omega
                have HFin := Lib.hid (show Noth w bn m0 (k + 1) sent Ds w4 from ⟨_, _, HF.out.flip HWY.out hp zz hzb, by rw [len_same L way _ (by simp)]; exact hM4.mono (Nat.le_succ _)⟩)
                clear hM4 hN hs hp hel hz hzb hy
                gi_wp2_with fail
                gi_quiet (fail)
                have HFi2 := Lib.hid (HFin.out.same (Step.drewN w4 nq))
                gi_wp2_with fail
                exact NothT.intro sent Ds HFi2.out (by kernel_rfl) rfl
              · have ty : ((y : Int) < (lw : Int)) = False := by simp; omega
                refine (inW (flip_no (some ⟨bn, 0, none⟩) (way : Int) (y : Int) 24 6 (.inr (.inr rfl)) W2 (noAt_out w.heap.size bn way HWY.out (y : Int) _ (.inr (by rw [List.length_map, ← HLW.out]; omega)) W2 HM.out.net))).mono ?_
                rintro e w' ⟨rfl, rfl⟩
                clear hy
                gi_wp2_with fail
                gi_quiet (fail)
                have HFin := Lib.hid (show Noth w bn m0 (k + 1) sent Ds (W2.drewN nq) from ⟨L, f, HF.out.mono, (HM.out.same (Step.drewN _ _)).mono (Nat.le_succ _)⟩)
                gi_wp2_with fail
                exact NothT.intro sent Ds HFin.out (by kernel_rfl) rfl
            · have e5 : ((x : Int) == 5) = false := by simp; omega
              have HFin := Lib.hid (show Noth w bn m0 (k + 1) sent Ds W2 from ⟨L, f, HF.out.mono, HM.out.mono (Nat.le_succ _)⟩)
              clear hx4 h4 h5
              gi_wp2_with fail
              exact NothT.intro sent Ds HFin.out (by kernel_rfl) rfl
    · gi_wp2_with fail
      refine (inW (netWakes_any _)).mono ?_
      rintro e w9 ⟨rfl, hs9⟩
      have H9 := Lib.hid (HI.out.same hs9)
      clear hs9
      gi_wp2_with fail
      obtain ⟨L, f, hF, hM⟩ := H9.out
      refine leaves_marks (B := w.heap.size) (results_tmp rfl _ _) Ds _ hM.ds hM.nd ?_
      intro w' hc
      exact ⟨rfl, hM.st.calm hc (Nat.le_refl _)⟩
end Go.Proofs.Ytnomnhlfenhjdaa
