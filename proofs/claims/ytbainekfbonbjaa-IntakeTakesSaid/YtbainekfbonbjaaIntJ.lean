/- intake: wakes. No statement is proved here; nothing is assumed. -/
import Derived.Test.YtbainekfbonbjaaIntI
import Derived.Lib.SlBytesConst
namespace Go.Proofs.Ytbainekfbonbjaa
open Go.RowKit Go.Shelf
set_option linter.unusedVariables false
set_option linter.unusedSimpArgs false
attribute [local go_sem] Oper.semAt_some

/-- What is told back of f, from F on. -/
def toldM (F : Nat) (f : Kept7) : Nat := maskOf F (fun k => (f k).isSome)
theorem IntM.mask {B : Nat} {W : World} {bi bm F : Nat} {M : Ents} {f : Kept7} (h : IntM B W bi bm F M f) : maskOf F (hasE M) = toldM F f := by
  unfold toldM; rw [show hasE M = fun k => (f k).isSome from funext h.has]
theorem told7_M (B bi bm F : Nat) (hF : F < 4294967296) (M : Ents) (f : Kept7) (w : World) (h : IntM B w bi bm F M f) (m : Nat) (hm : toldM F f = m) :
    Calls Try.prog 63 #[.pointer (some ⟨bi, 0, none⟩)] w fun e w' => e = .returned (.tuple #[.int .u32 (F : Int), .int .u32 (m : Int)]) ∧ Step [] w w' := by
  have := told7_any B bi bm F hF M f w h
  rwa [h.mask, hm] at this
/-- A slice literal of bytes. -/
theorem lit_reads (w : World) (x : Nat) (fr : Nat × Nat) : Reads (w.alloc (.cells #[.int .u8 (x : Int)] 5 fr)) (.slice (some ⟨w.heap.size, 0, none⟩) 1 1) (u8s [x]) := by
  refine .inr ⟨w.heap.size, 0, 1, rfl, Nat.le_refl _, by simp [maxLen], fun j hj => ?_⟩
  have : j = 0 := by simp [u8s] at hj; omega
  subst this
  exact cells_cell (W := w.alloc (.cells #[.int .u8 (x : Int)] 5 fr)) (b := w.heap.size) (i := 0) (c := #[.int .u8 (x : Int)]) (t := 5) (f := fr) (by rw [heap_alloc_get, if_pos rfl]) rfl
/-- take_ok, its numbers as they stand in the code. -/
theorem take_lit (B bi bm F : Nat) (M : Ents) (f : Kept7) (q : Option Addr) (cap n len : Nat) (N : Int) (p : List Nat) (L0 : List (List Nat)) (w : World) (hN : N = n) (hlen : len = p.length) (h : IntM B w bi bm F M f) (hB : B ≤ w.heap.size) (hl : p.length ≤ 256) (hp : ∀ x ∈ p, x < 256) (hr : Reads w (.slice q p.length cap) (u8s p))
    (hn : n < 4294967296) (hF : F + (M.length + 1) < 4294967296) (hM : M.length ≤ 900) (h1 : F ≤ n) (h2 : n < F + 16) (hf : f n = none) (hd : Drained F (setK f n (some p)) L0) :
    Calls Try.prog 62 #[.pointer (some ⟨bi, 0, none⟩), .int .u32 N, .slice q len cap] w fun e w' => ∃ v vals M', e = .returned (.tuple #[v, .int .i64 1, .int .i64 0]) ∧ OwnAt w.heap.size w' 71 v vals ∧ Pays B w' vals L0 ∧
      IntM B w' bi bm (F + L0.length) M' (behind7 F (setK f n (some p)) L0.length) ∧ M'.length + L0.length = M.length + 1 ∧ (∀ q ∈ M', Old M w.heap.size q.2) ∧ (∀ u ∈ vals, Old M w.heap.size u) ∧ Step [bi, bm] w w' := by
  subst hN; subst hlen
  refine (take_ok B bi bm F M f q cap n p w h hB hl hp hr hn hF hM h1 h2 hf).mono ?_
  rintro e w' ⟨v, vals, L, M', he, g1, g2, g3, g4, g5, g6, g7, g8⟩
  obtain rfl := g3.uniq hd
  exact ⟨v, vals, M', he, g1, g2, g4, g5, g6, g7, g8⟩
abbrev k1 : Kept7 := setK (fun _ => none) 1 (some [98])
abbrev k2 : Kept7 := setK k1 0 (some [97])
theorem told_k1 : toldM 0 k1 = 1 := by decide +kernel
theorem told_k2 : toldM 2 (behind7 0 k2 2) = 0 := by decide +kernel
theorem dr_k1 : Drained 0 k1 [] := ⟨fun j p h => by simp at h, rfl⟩
theorem dr_k2 : Drained 0 k2 [[97], [98]] := by
  refine ⟨fun j p h => ?_, rfl⟩
  have hj := (List.getElem?_eq_some_iff.1 h).1
  have : j = 0 ∨ j = 1 := by simp at hj; omega
  rcases this with rfl | rfl
  · simp at h; subst h; rfl
  · simp at h; subst h; rfl
set_option maxRecDepth 100000 in
set_option maxHeartbeats 4000000 in
theorem wakes7_any (w : World) : Calls Try.prog 69 #[] w fun e w' => e = .returned (.bool true) ∧ Step [] w w' := by
  go_enter Try.func69, Try.ntmps69
  go_wp2_with fail
  refine (new7_any w).mono ?_
  rintro e w1 ⟨bi, bm, rfl, hI, hs⟩
  have h2 := hI.same (Step.alloc (S := []) w1 (.cells #[.int .u8 98] 5 (1, 2)))
  have H1 := Lib.hid (And.intro hs hI.lo)
  have HT := Lib.hid (take_lit w.heap.size bi bm 0 [] (fun _ => none) (some ⟨w1.heap.size, 0, none⟩) 1 1 1 1 [98] [] _ rfl rfl h2 (by have := hs.size; simp; omega) (by simp) (by simp) (lit_reads w1 98 (1, 2)) (by omega) (by simp) (by simp) (by omega) (by omega) rfl dr_k1)
  have cv := fun (X : World) (C : Array Value) (n c : Nat) => Lib.run_convert_bytes_const (P := Try.prog) X 71 5 C n c Try.underlying71 Try.underlying5
  clear hI hs h2
  go_wp2_with fail
  refine HT.out.mono ?_
  rintro e w2 ⟨v1, vals1, M1, rfl, g1, g2, g4, g5, g6, g7, g8⟩
  obtain ⟨q1, cap1, rfl, _, _⟩ := g1.form
  have hl1 : vals1.length = 0 := g2.1
  rw [hl1]
  have HT2 := Lib.hid (told7_M w.heap.size bi bm 0 (by omega) M1 _ w2 g4 1 told_k1)
  have H2 := Lib.hid (And.intro g4 (And.intro g5 g8))
  clear HT g1 g2 g4 g5 g6 g7 g8 hl1
  go_wp2_with fail
  refine HT2.out.mono ?_
  rintro e w3 ⟨rfl, hs3⟩
  have h3 := (H2.out.1.same hs3).same (Step.alloc (S := []) w3 (.cells #[.int .u8 97] 5 (1, 2)))
  have hz3 := H1.out.1.size
  have hz4 := H2.out.2.2.size
  have hz5 := hs3.size
  have HT := Lib.hid (take_lit w.heap.size bi bm 0 M1 k1 (some ⟨w3.heap.size, 0, none⟩) 1 0 1 0 [97] [[97], [98]] _ rfl rfl h3 (by simp at hz4 ⊢; omega) (by simp) (by simp) (lit_reads w3 97 (1, 2)) (by omega) (by have := H2.out.2.1; simp at this; omega) (by have := H2.out.2.1; simp at this; omega) (by omega) (by omega) rfl dr_k2)
  have H3 := Lib.hid (show Step [bi, bm] w1 (w3.alloc (.cells #[.int .u8 97] 5 (1, 2))) from ((Step.alloc (S := [bi, bm]) _ _).trans H2.out.2.2).trans (hs3.trans (Step.alloc _ _)).nil_mono)
  clear h3 hs3 HT2 hz3 hz4 hz5
  go_wp2_with fail
  refine HT.out.mono ?_
  rintro e w4 ⟨v2, vals2, M2, rfl, g1, g2, g4, g5, g6, g7, g8⟩
  obtain ⟨q2, cap2, rfl, _, _⟩ := g1.form
  have hl2 : vals2.length = 2 := g2.1
  obtain ⟨u0, u1, rfl⟩ : ∃ u0 u1, vals2 = [u0, u1] := by
    match vals2, hl2 with
    | [a, b], _ => exact ⟨a, b, rfl⟩
  rw [hl2]
  have p0 := g2.2 0 u0 [97] rfl rfl
  have p1 := g2.2 1 u1 [98] rfl rfl
  obtain ⟨gb, off, cc, hv, _, _, hc0⟩ := g1.at (j := 0) (x := u0) rfl
  obtain ⟨gb', off', cc', hv', _, _, hc1⟩ := g1.at (j := 1) (x := u1) rfl
  simp only [List.length_cons, List.length_nil] at hv hv'
  injection hv with e1 e2 e3
  subst e1
  injection hv' with e1 e2 e3
  injection e1 with e1
  injection e1 with e1 e4
  subst e1; subst e4
  have HT2 := Lib.hid (told7_M w.heap.size bi bm 2 (by omega) M2 _ w4 g4 0 told_k2)
  have H4 := Lib.hid (And.intro g4 (And.intro g8 (And.intro p0 (And.intro p1 (And.intro hc0 hc1)))))
  clear HT g1 g2 g4 g5 g6 g7 g8 hl2 p0 p1 hc0 hc1 e2 e3
  go_wp2_with fail
  refine HT2.out.mono ?_
  rintro e w5 ⟨rfl, hs5⟩
  have hs6 : Step [] w5 (w5.alloc (.cells #[.int .u8 120] 5 (1, 2))) := Step.alloc _ _
  have H5 := Lib.hid (And.intro hs5 hs6)
  have HT := Lib.hid (take_again w.heap.size bi bm 2 M2 _ (some ⟨w5.heap.size, 0, none⟩) 1 1 0 _ ((H4.out.1.same hs5).same hs6) (by omega) (by omega) (by omega) (.inl (by omega)))
  clear HT2 hs5 hs6
  go_wp2_with fail
  refine HT.out.mono ?_
  rintro e w6 ⟨rfl, hw⟩
  cases hw
  clear HT cv
  have hs7 := H5.out.1.trans H5.out.2
  obtain ⟨_, _, p0, p1, hc0, hc1⟩ := H4.out
  have p0' := p0.same hs7
  have p1' := p1.same hs7
  have b0 := back_all _ u0 [97] p0'.2.2 p0'.1.reads
  have b1 := back_all _ u1 [98] p1'.2.2 p1'.1.reads
  have hc0' := step_cell hs7 hc0
  have hc1' := step_cell hs7 hc1
  rw [Nat.add_zero] at hc0'
  have hst : Step [bi, bm] w1 (w5.alloc (.cells #[.int .u8 120] 5 (1, 2))) := (H3.out.trans H4.out.2.1).trans hs7.nil_mono
  have HST := Lib.hid (H1.out.1.trans' hst (fun _ h _ => h) (fun i hi hlt => by have := H1.out.2; simp at hi; omega))
  clear p0 p1 hc0 hc1 p0' p1' hs7 hst
  have s0 : (strN [97]).toList = [97] := by decide +kernel
  have s1 : (strN [98]).toList = [98] := by decide +kernel
  go_wp2_with fail
  go_ret
  exact ⟨rfl, HST.out⟩
end Go.Proofs.Ytbainekfbonbjaa
