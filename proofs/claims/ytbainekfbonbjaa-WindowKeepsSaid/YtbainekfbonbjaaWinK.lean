/- WindowKnown: what a window that was never made answers; its numbers. No statement is proved here; nothing is assumed. -/
import Derived.Test.YtbainekfbonbjaaWinI
namespace Go.Proofs.Ytbainekfbonbjaa
open Go.RowKit Go.Shelf
set_option linter.unusedVariables false
set_option linter.unusedSimpArgs false
attribute [local go_sem] Oper.semAt_some

theorem wakes6_nil (w : World) : Calls Try.prog 55 #[.pointer none] w fun e w' => e = .returned (.tuple #[.int .i64 0, .bool false]) ∧ w = w' := by
  go_enter Try.func55, Try.ntmps55
  go_wp2_with (go_at_call 92; refine (none6_nil _).mono ?_; rintro e w' ⟨rfl, hw⟩; cases hw.symm)
  go_ret2
  exact ⟨rfl, rfl⟩
theorem due6_nil (now : Int) (w : World) : Calls Try.prog 49 #[.pointer none, .int .i64 now] w fun e w' => e = .returned (.slice none 0 0) ∧ w = w' := by
  go_enter Try.func49, Try.ntmps49
  go_wp2_with (go_at_call 92; refine (none6_nil _).mono ?_; rintro e w' ⟨rfl, hw⟩; cases hw.symm)
  go_ret
  exact ⟨rfl, rfl⟩
theorem len6_nil (w : World) : Calls Try.prog 57 #[.pointer none] w fun e w' => e = .returned (.int .i64 0) ∧ w = w' := by
  go_enter Try.func57, Try.ntmps57
  go_wp2_with (go_at_call 92; refine (none6_nil _).mono ?_; rintro e w' ⟨rfl, hw⟩; cases hw.symm)
  go_ret
  exact ⟨rfl, rfl⟩
theorem next6_nil (w : World) : Calls Try.prog 54 #[.pointer none] w fun e w' => e = .returned (.int .u32 0) ∧ w = w' := by
  go_enter Try.func54, Try.ntmps54
  go_wp2_with (go_at_call 92; refine (none6_nil _).mono ?_; rintro e w' ⟨rfl, hw⟩; cases hw.symm)
  go_ret
  exact ⟨rfl, rfl⟩
theorem bytes6_zero (b : Nat) (w : World) (h : w.heap[b]? = some zeroObj6) : Calls Try.prog 58 #[.pointer (some ⟨b, 0, none⟩)] w fun e w' => e = .returned (.int .i64 0) ∧ w = w' := by
  have HN := Lib.hid (none6_zero b w h)
  clear h
  go_enter Try.func58, Try.ntmps58
  go_wp2_with (go_at_call 92; refine HN.out.mono ?_; rintro e w' ⟨rfl, hw⟩; cases hw.symm)
  go_ret
  exact ⟨rfl, rfl⟩
theorem left6_zero (b : Nat) (w : World) (h : w.heap[b]? = some zeroObj6) : Calls Try.prog 60 #[.pointer (some ⟨b, 0, none⟩)] w fun e w' => e = .returned (.int .u32 0) ∧ w = w' := by
  have HN := Lib.hid (none6_zero b w h)
  clear h
  go_enter Try.func60, Try.ntmps60
  go_wp2_with (go_at_call 92; refine HN.out.mono ?_; rintro e w' ⟨rfl, hw⟩; cases hw.symm)
  go_ret
  exact ⟨rfl, rfl⟩
theorem ack6_zero (b : Nat) (ack mask : Int) (w : World) (h : w.heap[b]? = some zeroObj6) : Calls Try.prog 51 #[.pointer (some ⟨b, 0, none⟩), .int .u32 ack, .int .u32 mask] w fun e w' => e = .returned (.int .i64 0) ∧ Step [] w w' := by
  have HN := Lib.hid (none6_zero b _ (obj_step h (Step.alloc (S := []) w (.cells #[.pointer (some ⟨b, 0, none⟩)] 64)) (by simp)))
  clear h
  refine (callsIn_wide (n := 0)).1 (callsIn_of_wp_marks Try.func51 rfl trivial ?_ rfl)
  simp only [Try.ntmps51, List.size_toArray, List.length_cons, List.length_nil, Nat.reduceAdd, Nat.reduceSub, Array.replicate_succ, Array.replicate_zero, List.push_toArray, List.append_toArray, List.nil_append, List.cons_append]
  gi_wp2_with (gi_at_call 92; refine (inW HN.out).mono ?_; rintro e w' ⟨rfl, hw⟩; cases hw.symm)
  refine leaves_marks (B := w.heap.size) (results_tmp rfl _ _) [] _ (by simp) (by simp) ?_
  intro w' hc
  exact ⟨rfl, (Step.alloc _ _).calm hc (by simp)⟩

/-- So many of two bytes each, all due at 7. -/
def fillG (j : Nat) : Kept6 := fun k => if k < j then some ([0, 0], 0, 7) else none
theorem fill_next (j : Nat) : setG (fillG j) j (some ([0, 0], 0, 7)) = fillG (j + 1) := by
  funext k
  unfold setG fillG
  by_cases e : k = j
  · rw [if_pos e, if_pos (by omega)]
  · rw [if_neg e]
    by_cases h : k < j
    · rw [if_pos h, if_pos (by omega)]
    · rw [if_neg h, if_neg (by omega)]
theorem ackG_some {a m k : Nat} {g : Kept6} {x : Rec6} (h : ackG a m g k = some x) : g k = some x := by
  unfold ackG at h
  split at h
  · cases h
  · exact h
def gK1 : Kept6 := ackG 2 9 (fillG 16)
def gK2 : Kept6 := ackG 2 9 gK1
def gK3 : Kept6 := dueG 5 5 7 gK2
def putK : Nat → Kept6
  | 0 => gK3
  | j + 1 => setG (putK j) (16 + j) (some ([], 0, 9))
def left12 : List Nat := [2, 4, 5, 7, 8, 9, 10, 11, 12, 13, 14, 15]
set_option maxRecDepth 100000 in
theorem bytesK : sumG (fillG 16) (keysG (fillG 16) 16) = 32 := by decide +kernel
set_option maxRecDepth 100000 in
theorem keysK0 : (keysG (fillG 16) 16).length = 16 := by decide +kernel
set_option maxRecDepth 100000 in
theorem keysK1 : (keysG gK1 16).length = 12 := by decide +kernel
set_option maxRecDepth 100000 in
theorem keysK2 : (keysG gK2 16).length = 12 := by decide +kernel
set_option maxRecDepth 100000 in
theorem dueK : dueL 7 gK2 16 = left12.map fun k => (k, [0, 0], 1) := by decide +kernel
set_option maxRecDepth 100000 in
theorem keysK5 : (keysG (ackG 20 0 (putK 4)) 20).length = 0 := by decide +kernel
theorem low6b {w W W' : World} {bm : Nat} (h : Step [] w W) (hs : Step [bm] W W') (hb : w.heap.size ≤ bm) : Step [] w W' := h.trans' hs (fun _ h _ => h) (fun i hi hl => by simp at hi; omega)
theorem make257w (w : World) : ∃ w', (Instr.makeSlice 71 (.int .i64 257) (.int .i64 257)).run Try.prog w = .ok (.slice (some ⟨w.heap.size, 0, none⟩) 257 257) w' ∧ Step [] w w' := by
  obtain ⟨i0, hi, hz0, hz1, hz2⟩ := info_parts info5
  obtain ⟨w', h1, _, h3⟩ := run_make_full (P := Try.prog) w w.heap.size 71 5 i0 _ 1 Try.underlying71 hi hz0 hz1 .i64 .i64 257 (by rw [hz2]; omega) (by simp [maxLen]) (Nat.le_refl _)
  exact ⟨w', h1, Step.ofGrown h3⟩
theorem made_two : (madeCells (Value.int .u8 0).cells (2 * 1)).toList = u8s [0, 0] := by kernel_rfl
theorem make2w (w : World) : ∃ w', (Instr.makeSlice 71 (.int .i64 2) (.int .i64 2)).run Try.prog w = .ok (.slice (some ⟨w.heap.size, 0, none⟩) 2 2) w' ∧ Step [] w w' ∧ Reads w' (.slice (some ⟨w.heap.size, 0, none⟩) 2 2) (u8s [0, 0]) := by
  obtain ⟨i0, hi, hz0, hz1, hz2⟩ := info_parts info5
  obtain ⟨w', h1, h2, h3⟩ := run_make_full (P := Try.prog) w w.heap.size 71 5 i0 _ 1 Try.underlying71 hi hz0 hz1 .i64 .i64 2 (by rw [hz2]; omega) (by simp [maxLen]) (Nat.le_refl _)
  rw [made_two] at h2
  exact ⟨w', h1, Step.ofGrown h3, (OwnAt.ofRow h2).reads⟩
/-- How WindowKnown's window stands: so many numbers given, n kept. -/
def KnAt (w : World) (B0 b sp bm u : Nat) (g : Kept6) (n : Nat) (W : World) : Prop := ∃ M, WinM B0 W b sp bm u 20 5 5 M g ∧ M.length = n ∧ Step [] w W ∧ w.heap.size ≤ B0 ∧ B0 ≤ W.heap.size
section
variable {w W W' : World} {B0 b sp bm u n : Nat} {g : Kept6}
theorem KnAt.same (h : KnAt w B0 b sp bm u g n W) (hs : Step [] W W') : KnAt w B0 b sp bm u g n W' := by
  obtain ⟨M, h1, h2, h3, h4, h5⟩ := h
  exact ⟨M, h1.same hs, h2, h3.trans hs, h4, Nat.le_trans h5 hs.size⟩
theorem KnAt.row {S : List Nat} (h : KnAt w B0 b sp bm u g n W) (hs : Step S W W') (hS : ∀ i ∈ S, w.heap.size ≤ i ∧ ∃ cur, W.heap[i]? = some (.cells cur 22 (0, 0))) : KnAt w B0 b sp bm u g n W' := by
  obtain ⟨M, h1, h2, h3, h4, h5⟩ := h
  refine ⟨M, h1.step hs (fun i hi => ?_), h2, h3.trans' hs (fun _ h _ => h) (fun i hi hl => by have := (hS i hi).1; omega), h4, Nat.le_trans h5 hs.size⟩
  obtain ⟨_, cur, hc⟩ := hS i hi
  refine ⟨fun e => ?_, fun e => ?_, fun e => ?_, fun cur' hc' => ?_⟩
  · have := h1.o; rw [← e, hc] at this; unfold winObj at this; cases this
  · have : W.heap[sp]? = some (spaceObj 92 u 20) := h1.s
    rw [← e, hc] at this; unfold spaceObj at this; cases this
  · obtain ⟨es', c', hb'⟩ := h1.m.block
    rw [← e, hc] at hb'; cases hb'
  · rw [hc] at hc'; cases hc'
/-- A row of numbers of one's own stays where the window turns. -/
theorem KnAt.rowStay {B n' : Nat} {v : Value} {xs : List Value} (h : KnAt w B0 b sp bm u g n W) (hs : Step [sp, bm] W W') (hr : W.ownsRow B 22 1 v n' xs) : W'.ownsRow B 22 1 v n' xs := by
  obtain ⟨M, h1, h2, h3, h4, h5⟩ := h
  refine row_step hr hs (fun i hi hm => ?_)
  obtain ⟨_, cur, hc⟩ := row_type hr i (by simp [hi])
  simp at hm
  rcases hm with e | e
  · have : W.heap[sp]? = some (spaceObj 92 u 20) := h1.s
    rw [← e, hc] at this; unfold spaceObj at this; cases this
  · obtain ⟨es', c', hb'⟩ := h1.m.block
    rw [← e, hc] at hb'; cases hb'
theorem kn_put (h : KnAt w B0 b sp bm u g n W) (hn : n < 16) (hu : u < 20) (q : Option Addr) (len cap now : Nat) (p : List Nat) (hl : len = p.length) (hp : ∀ x ∈ p, x < 256) (hpl : p.length ≤ 256) (hr : Reads W (.slice q len cap) (u8s p)) (hnow : now ≤ 1000) :
    Calls Try.prog 47 #[.pointer (some ⟨b, 0, none⟩), .slice q len cap, .int .i64 (now : Int)] W fun e w' => e = .returned (.tuple #[.int .u32 (u : Int), .int .i64 0]) ∧ KnAt w B0 b sp bm (u + 1) (setG g u (some (p, 0, now))) (n + 1) w' ∧ Step [sp, bm] W w' := by
  obtain ⟨M, h1, h2, h3, h4, h5⟩ := h
  refine (put6_ok h1 h5 q cap now p len hl hp hr (by omega) hpl (by omega) hu).mono ?_
  rintro e w' ⟨rfl, M', g1, g2, g3⟩
  exact ⟨rfl, ⟨M', g1, by omega, h3.trans' g3 (fun _ h _ => h) (fun i hi hl => by have := h1.lo; simp at hi; rcases hi with rfl | rfl <;> omega), h4, Nat.le_trans h5 g3.size⟩, g3⟩
theorem kn_busy (h : KnAt w B0 b sp bm u g n W) (hn : 16 ≤ n) (q : Option Addr) (len cap now : Nat) (hl : len ≤ 256) (hnow : now ≤ 1000) :
    Calls Try.prog 47 #[.pointer (some ⟨b, 0, none⟩), .slice q len cap, .int .i64 (now : Int)] W fun e w' => e = .returned (.tuple #[.int .u32 0, .int .i64 8]) ∧ W = w' := by
  obtain ⟨M, h1, h2, h3, h4, h5⟩ := h
  exact put6_busy h1 q len cap now (by omega) hl (by omega)
theorem kn_full (h : KnAt w B0 b sp bm u g n W) (hn : n < 16) (hu : u = 20) (q : Option Addr) (len cap now : Nat) (hl : len ≤ 256) (hnow : now ≤ 1000) :
    Calls Try.prog 47 #[.pointer (some ⟨b, 0, none⟩), .slice q len cap, .int .i64 (now : Int)] W fun e w' => e = .returned (.tuple #[.int .u32 0, .int .i64 7]) ∧ KnAt w B0 b sp bm u g n w' ∧ Step [] W w' := by
  have h0 := h
  obtain ⟨M, h1, h2, h3, h4, h5⟩ := h
  refine (put6_full h1 q len cap now (by omega) hl (by omega) hu).mono ?_
  rintro e w' ⟨rfl, hs⟩
  exact ⟨rfl, h0.same hs, hs⟩
theorem kn_long (h : KnAt w B0 b sp bm u g n W) (q : Option Addr) (len cap now : Nat) (hl : 256 < len) (hnow : now ≤ 1000) :
    Calls Try.prog 47 #[.pointer (some ⟨b, 0, none⟩), .slice q len cap, .int .i64 (now : Int)] W fun e w' => e = .returned (.tuple #[.int .u32 0, .int .i64 3]) ∧ W = w' := by
  obtain ⟨M, h1, h2, h3, h4, h5⟩ := h
  exact put6_long h1 q len cap now (by omega) hl
theorem kn_ack (h : KnAt w B0 b sp bm u g n W) (hn : n ≤ 1000) (ack mask n' r : Nat) (ha : ack ≤ u) (hm : mask < 1000) (hn' : (keysG (ackG ack mask g) u).length = n') (hr : n = r + n') :
    Calls Try.prog 51 #[.pointer (some ⟨b, 0, none⟩), .int .u32 (ack : Int), .int .u32 (mask : Int)] W fun e w' => e = .returned (.int .i64 (r : Int)) ∧ KnAt w B0 b sp bm u (ackG ack mask g) n' w' ∧ Step [bm] W w' := by
  obtain ⟨M, h1, h2, h3, h4, h5⟩ := h
  refine (ack6_any h1 (by omega) ack mask ha (by omega)).mono ?_
  rintro e w' ⟨M', rfl, g1, g2, g3⟩
  have hl : M'.length = n' := by rw [g1.len, hn']
  exact ⟨by congr 2; omega, ⟨M', g1, hl, low6b h3 g3 (by have := h1.lo; omega), h4, Nat.le_trans h5 g3.size⟩, g3⟩
theorem kn_far (h : KnAt w B0 b sp bm u g n W) (ack mask : Nat) (ha : u < ack) :
    Calls Try.prog 51 #[.pointer (some ⟨b, 0, none⟩), .int .u32 (ack : Int), .int .u32 (mask : Int)] W fun e w' => e = .returned (.int .i64 0) ∧ KnAt w B0 b sp bm u g n w' := by
  have h0 := h
  obtain ⟨M, h1, h2, h3, h4, h5⟩ := h
  refine (ack6_far h1 ack mask ha).mono ?_
  rintro e w' ⟨rfl, hs⟩
  exact ⟨rfl, h0.same hs⟩
theorem kn_due (h : KnAt w B0 b sp bm u g n W) (hn : n ≤ 12) (hT : ∀ k x, g k = some x → x.2.1 < 1000000) (now : Nat) (hnow : now ≤ 1000) (D : List Out6) (hD : dueL now g u = D) :
    Calls Try.prog 49 #[.pointer (some ⟨b, 0, none⟩), .int .i64 (now : Int)] W fun e w' => ∃ v, e = .returned v ∧ OutAt W.heap.size w' v D ∧ KnAt w B0 b sp bm u (dueG 5 5 now g) n w' := by
  obtain ⟨M, h1, h2, h3, h4, h5⟩ := h
  refine (due6_any pdqAt12 (by omega) B0 b sp bm u 20 5 5 M g W h1 h5 (by omega) hT (now : Int) now (by omega)).mono ?_
  rintro e w' ⟨v, M', rfl, g1, g2, g3, g4⟩
  rw [hD] at g1
  exact ⟨v, rfl, g1, M', g2, by omega, low6b h3 g4 (by have := h1.lo; omega), h4, Nat.le_trans h5 g4.size⟩
theorem kn_len (h : KnAt w B0 b sp bm u g n W) : Calls Try.prog 57 #[.pointer (some ⟨b, 0, none⟩)] W fun e w' => e = .returned (.int .i64 (n : Int)) ∧ w' = W := by
  obtain ⟨M, h1, h2, h3, h4, h5⟩ := h
  rw [← h2]
  exact len6_any _ _ _ _ _ _ _ _ _ _ _ h1
theorem kn_next (h : KnAt w B0 b sp bm u g n W) : Calls Try.prog 54 #[.pointer (some ⟨b, 0, none⟩)] W fun e w' => e = .returned (.int .u32 (u : Int)) ∧ w' = W := by
  obtain ⟨M, h1, h2, h3, h4, h5⟩ := h
  exact next6_any _ _ _ _ _ _ _ _ _ _ _ h1
theorem kn_left (h : KnAt w B0 b sp bm u g n W) (r : Nat) (hr : r + u = 20) : Calls Try.prog 60 #[.pointer (some ⟨b, 0, none⟩)] W fun e w' => e = .returned (.int .u32 (r : Int)) ∧ KnAt w B0 b sp bm u g n w' := by
  have h0 := h
  obtain ⟨M, h1, h2, h3, h4, h5⟩ := h
  refine (left6_any _ _ _ _ _ _ _ _ _ _ _ h1).mono ?_
  rintro e w' ⟨rfl, hs⟩
  exact ⟨by congr 2; omega, h0.same hs⟩
theorem kn_bytes (h : KnAt w B0 b sp bm u g n W) (hn : n ≤ 1000) (r : Nat) (hr : sumG g (keysG g u) = r) : Calls Try.prog 58 #[.pointer (some ⟨b, 0, none⟩)] W fun e w' => e = .returned (.int .i64 (r : Int)) ∧ KnAt w B0 b sp bm u g n w' := by
  have h0 := h
  obtain ⟨M, h1, h2, h3, h4, h5⟩ := h
  refine (bytes6_any h1 (by omega)).mono ?_
  rintro e w' ⟨rfl, hs⟩
  rw [hr]
  exact ⟨rfl, h0.same hs⟩
end
theorem cells3_at : ∀ (E : List (Nat × Value × Nat)) (j : Nat) e, E[j]? = some e → (cells3 E)[j * 3]? = some (.int .u32 (e.1 : Int)) ∧ (cells3 E)[j * 3 + 1]? = some e.2.1 ∧ (cells3 E)[j * 3 + 2]? = some (.int .i64 (e.2.2 : Int))
  | [], j, e, h => by simp at h
  | q :: t, 0, e, h => by
    simp at h
    subst h
    exact ⟨rfl, rfl, rfl⟩
  | q :: t, j + 1, e, h => by
    simp at h
    obtain ⟨h1, h2, h3⟩ := cells3_at t j e h
    have hc : cells3 (q :: t) = [.int .u32 (q.1 : Int), q.2.1, .int .i64 (q.2.2 : Int)] ++ cells3 t := rfl
    rw [hc]
    refine ⟨?_, ?_, ?_⟩
    · rw [List.getElem?_append_right (by simp; omega), ← h1]; congr 1; simp; omega
    · rw [List.getElem?_append_right (by simp; omega), ← h2]; congr 1; simp; omega
    · rw [List.getElem?_append_right (by simp; omega), ← h3]; congr 1; simp; omega
theorem OutAt.at {B : Nat} {W : World} {q : Option Addr} {n c j : Nat} {D : List Out6} {d : Out6} (h : OutAt B W (.slice q n c) D) (hd : D[j]? = some d) :
    ∃ g pq pc, q = some ⟨g, 0, none⟩ ∧ W.cell? ⟨g, j * 3, none⟩ = some (.int .u32 (d.1 : Int)) ∧ W.cell? ⟨g, j * 3 + 1, none⟩ = some (.slice pq d.2.1.length pc) ∧ W.cell? ⟨g, j * 3 + 2, none⟩ = some (.int .i64 (d.2.2 : Int)) ∧ PayAt B W (.slice pq d.2.1.length pc) d.2.1 ∧ d.2.1.length ≤ pc ∧ pc ≤ maxLen := by
  obtain ⟨E, h1, h2, h3⟩ := h
  have hj := (List.getElem?_eq_some_iff.1 hd).1
  obtain ⟨⟨e1, e2, e3⟩, he⟩ : ∃ e, E[j]? = some e := ⟨_, List.getElem?_eq_getElem (by omega)⟩
  obtain ⟨r1, r2, r3⟩ := h3 j _ d he hd
  obtain ⟨k1, k2, k3⟩ := cells3_at E j _ he
  dsimp only at r1 r2 r3 k1 k2 k3
  obtain ⟨pq, pc, rfl, hpc, hpm⟩ := r3.1.form
  rw [u8s_length] at r3 k2 hpc
  obtain ⟨g, cap, a1, _, _, a4, _⟩ := row_cell6 h1 k1
  obtain ⟨g', cap', b1, _, _, b4, _⟩ := row_cell6 h1 k2
  obtain ⟨g'', cap'', c1, _, _, c4, _⟩ := row_cell6 h1 k3
  injection a1 with a1 _ _
  subst a1
  injection b1 with b1 _ _
  injection b1 with b1
  injection b1 with b1
  injection c1 with c1 _ _
  injection c1 with c1
  injection c1 with c1
  subst b1
  subst c1
  rw [r1] at a4
  rw [r2] at c4
  exact ⟨g, pq, pc, rfl, a4, b4, c4, r3, hpc, hpm⟩
theorem new_cells1 {w : World} {h : Nat} {a : Value} {t : TypeId} (hh : w.heap.size = h) : ∀ (j : Nat) u, [a][j]? = some u → (w.alloc (.cells #[a] t)).cell? ((⟨h, 0, none⟩ : Addr).add j) = some u := by
  intro j u hu
  rw [add_plain', Nat.zero_add]
  subst hh
  exact cells_cell (by rw [heap_alloc_get, if_pos rfl]) (by simpa using hu)
theorem row_isN {B : Nat} {W : World} {v : Value} {xs : List Nat} (h : W.ownsRow B 22 1 v xs.length (n32 xs)) : IsN .u32 W v xs := by
  rcases h.2 with ⟨h1, h2⟩ | ⟨g, cap, cur, h1, _, hg, h3, h4, _, h6⟩
  · have : xs = [] := List.eq_nil_of_length_eq_zero h2
    subst this
    exact ⟨none, 0, h1, Nat.le_refl _, by simp [maxLen], fun h => absurd rfl h⟩
  · refine ⟨_, cap, h1, h3, h4, fun _ => ⟨g, 0, rfl, fun i hi => ?_⟩⟩
    have hx : (n32 xs)[i]? = some (.int .u32 ((xs[i]?.getD 0 : Nat) : Int)) := by rw [n32_get, List.getElem?_eq_getElem hi]; rfl
    obtain ⟨g', cap', e1, _, _, e4, _⟩ := row_cell6 h hx
    rw [h1] at e1
    injection e1 with e1
    injection e1 with e1
    injection e1 with e1
    subst e1
    rw [Nat.zero_add]
    exact e4
end Go.Proofs.Ytbainekfbonbjaa
