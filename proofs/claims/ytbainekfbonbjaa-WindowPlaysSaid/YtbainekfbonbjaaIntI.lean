/- intake: Copy. No statement is proved here; nothing is assumed. -/
import Derived.Test.YtbainekfbonbjaaIntH
import Derived.Laws.Externs
namespace Go.Proofs.Ytbainekfbonbjaa
open Go.RowKit Go.Shelf
set_option linter.unusedVariables false
set_option linter.unusedSimpArgs false
attribute [local go_sem] Oper.semAt_some

theorem func113' : Try.prog.funcs[113]? = some Try.f113 := by kernel_rfl
set_option maxRecDepth 100000 in
set_option maxHeartbeats 2000000 in
theorem mapClone_any (b : Nat) (es : Array MapEntry) (clock : Nat) (w : World) (hb : w.heap[b]? = some (.map es clock)) :
    Calls Try.prog 103 #[.map (some b)] w fun e w' => e = .returned (.map (some w.heap.size)) ∧ w' = w.alloc (.map es clock) := by
  have hq := fun w => run_eql_map_nil_sl (P := Try.prog) w 99 _ _ (some b) Try.underlying99
  go_enter Try.func103, Try.ntmps103
  go_wp2
  rw [run_callFunc_extern func113' (by kernel_rfl) (by kernel_rfl) (by kernel_rfl) (e := Extern.MapsClone.clone) (by kernel_rfl), run_maps_clone_sl w 99 hb]
  simp only [Result.andThen]
  rw [Oper.upon_value]
  go_wp2
  rw [run_typeAssert_map_sl _ 99 20 _ _ _ Try.underlying99]
  simp only [Result.andThen]
  rw [Oper.upon_value]
  go_wp2
  go_ret
  exact ⟨rfl, rfl⟩
theorem MapV.clone {W : World} {b : Nat} {M : Ents} (h : MapV W b M) : ∃ es clock, W.heap[b]? = some (.map es clock) ∧ MapV (W.alloc (.map es clock)) W.heap.size M := by
  obtain ⟨D, n, ⟨es, clock, hb, F, h1, h2⟩, hn, hD⟩ := h
  exact ⟨es, clock, hb, D, n, ⟨es, clock, by rw [heap_alloc_get, if_pos rfl], F, h1, h2⟩, hn, hD⟩
theorem copy7_nil (w : World) : Calls Try.prog 67 #[.pointer none] w fun e w' => e = .returned (.pointer none) ∧ w = w' := by
  go_enter Try.func67, Try.ntmps67
  go_wp2_with (go_at_call 98; refine (none_nil _).mono ?_; rintro e w' ⟨rfl, hw⟩; cases hw.symm)
  go_ret
  exact ⟨rfl, rfl⟩
theorem copy7_zero (b F : Nat) (w : World) (h : IntObj w b F none) : Calls Try.prog 67 #[.pointer (some ⟨b, 0, none⟩)] w fun e w' => e = .returned (.pointer none) ∧ w = w' := by
  have HN := Lib.hid (none_any b F none w h)
  clear h
  go_enter Try.func67, Try.ntmps67
  go_wp2_with (go_at_call 98; refine HN.out.mono ?_; rintro e w' ⟨rfl, hw⟩; cases hw.symm)
  go_ret
  exact ⟨rfl, rfl⟩
set_option maxRecDepth 100000 in
set_option maxHeartbeats 2000000 in
/-- A copy: blocks of its own, but for the payloads, which are shared and never written. -/
theorem copy7_any (B bi bm F : Nat) (M : Ents) (f : Kept7) (w : World) (h : IntM B w bi bm F M f) :
    Calls Try.prog 67 #[.pointer (some ⟨bi, 0, none⟩)] w fun e w' => ∃ ci cm, e = .returned (.pointer (some ⟨ci, 0, none⟩)) ∧ IntM B w' ci cm F M f ∧ w.heap.size ≤ ci ∧ w.heap.size ≤ cm ∧ Step [] w w' := by
  obtain ⟨c0, c1, _⟩ := int_cells h.o
  have HN := Lib.hid (none_any bi F (some bm) w h.o)
  have H := Lib.hid h
  clear h
  go_enter Try.func67, Try.ntmps67
  go_wp2_with (go_at_call 98; refine HN.out.mono ?_; rintro e w' ⟨rfl, hw⟩; cases hw.symm)
  go_region_held3 (fun W => W.cell? ⟨bi, 0, none⟩ = some (.int .u32 (F : Int)) ∧ W.cell? ⟨bi, 1, none⟩ = some (.map (some bm)))
    (first | exact ⟨c0, c1⟩ | assumption | exact ⟨step_cell (((Step.alloc (S := []) _ _).trans (Step.alloc _ _)).trans (Step.drew _)) c0, step_cell (((Step.alloc (S := []) _ _).trans (Step.alloc _ _)).trans (Step.drew _)) c1⟩)
    (first | (go_at_call 103; obtain ⟨es, clk, hb, hm⟩ := (H.out.m.keep (Step.drew (S := []) w) (by simp)).clone;
              refine (mapClone_any bm es clk _ hb).mono ?_; rintro e w' ⟨rfl, rfl⟩;
              have hs := Step.alloc (S := []) w.drew (.map es clk);
              have HM := Lib.hid (And.intro hm hs);
              have k0 : (w.drew.alloc (.map es clk)).cell? ⟨bi, 0, none⟩ = some (.int .u32 (F : Int)) ∧ (w.drew.alloc (.map es clk)).cell? ⟨bi, 1, none⟩ = some (.map (some bm)) := ⟨step_cell hs c0, step_cell hs c1⟩; clear hm hs))
  go_wp2
  go_ret
  have hs0 : Step [] w (w.alloc (.map es clk)) := Step.alloc _ _
  have hs1 : Step [] (w.alloc (.map es clk)) (((w.alloc (.map es clk)).alloc (.cells #[.int .u32 (F : Int), .map (some w.heap.size)] 101)).drew) := (Step.alloc _ _).trans (Step.drew _)
  have hI := (H.out.same hs0).same hs1
  have hmm : MapV (w.alloc (.map es clk)) w.heap.size M := by
    obtain ⟨D, n, ⟨es', clk', e1, F', g1, g2⟩, hn, hD⟩ := H.out.m
    rw [show w.heap[bm]? = some (.map es clk) from hb] at e1
    cases e1
    exact ⟨D, n, ⟨es, clk, by rw [heap_alloc_get, if_pos rfl], F', g1, g2⟩, hn, hD⟩
  refine ⟨w.heap.size + 1, w.heap.size, rfl, ⟨?_, ?_, hmm.keep hs1 (by simp), hI.r⟩, by omega, Nat.le_refl _, hs0.trans hs1⟩
  · show ((w.alloc (.map es clk)).alloc (.cells #[.int .u32 (F : Int), .map (some w.heap.size)] 101)).heap[w.heap.size + 1]? = _
    rw [heap_alloc_get, if_pos (by simp)]; rfl
  · have := heap_lt (show w.heap[bi]? = _ from H.out.o)
    have := H.out.lo
    omega
end Go.Proofs.Ytbainekfbonbjaa
