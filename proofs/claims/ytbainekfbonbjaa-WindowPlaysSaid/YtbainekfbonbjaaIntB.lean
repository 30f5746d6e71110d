/- intake: what an intake holds; New, Floor, Waits, ready. No statement is proved here; nothing is assumed. -/
import Derived.Test.YtbainekfbonbjaaIntA
import Derived.Test.YtbainekfbonbjaaByt
namespace Go.Proofs.Ytbainekfbonbjaa
open Go.RowKit Go.Shelf
set_option linter.unusedVariables false
attribute [local go_sem] Oper.semAt_some

/-- What is kept of a payload. -/
def PayAt (B : Nat) (W : World) (v : Value) (p : List Nat) : Prop := OwnAt B W 5 v (u8s p) ∧ p.length ≤ 256 ∧ ∀ x ∈ p, x < 256
/-- An intake: its floor F, its map bm of M, which keeps what f says. -/
structure IntM (B : Nat) (W : World) (bi bm F : Nat) (M : Ents) (f : Kept7) : Prop where
  o : IntObj W bi F (some bm)
  lo : B ≤ bi ∧ B ≤ bm
  m : MapV W bm M
  r : RepK (PayAt B W) M f
theorem PayAt.same {B : Nat} {W W' : World} {v : Value} {p : List Nat} (h : PayAt B W v p) (hs : Step [] W W') : PayAt B W' v p := ⟨h.1.same hs, h.2⟩
theorem IntM.same {B : Nat} {W W' : World} {bi bm F : Nat} {M : Ents} {f : Kept7} (h : IntM B W bi bm F M f) (hs : Step [] W W') : IntM B W' bi bm F M f :=
  ⟨obj_step h.o hs (by simp), h.lo, h.m.keep hs (by simp), ⟨h.r.nd, fun k x hx => by obtain ⟨p, h1, h2⟩ := h.r.to k x hx; exact ⟨p, h1, h2.same hs⟩, h.r.fro⟩⟩
theorem floor_any (B bi bm F : Nat) (M : Ents) (f : Kept7) (w : World) (h : IntM B w bi bm F M f) : Calls Try.prog 64 #[.pointer (some ⟨bi, 0, none⟩)] w fun e w' => e = .returned (.int .u32 (F : Int)) ∧ w' = w := by
  obtain ⟨c0, c1, _⟩ := int_cells h.o
  have hn := none_any bi F (some bm) w h.o
  have HN := Lib.hid hn
  clear h hn
  go_enter Try.func64, Try.ntmps64
  go_wp2_with (go_at_call 98; refine HN.out.mono ?_; rintro e w' ⟨rfl, rfl⟩)
  go_ret
  exact ⟨rfl, rfl⟩
theorem waits7_any (B bi bm F : Nat) (M : Ents) (f : Kept7) (w : World) (h : IntM B w bi bm F M f) : Calls Try.prog 65 #[.pointer (some ⟨bi, 0, none⟩)] w fun e w' => e = .returned (.int .i64 (M.length : Int)) ∧ w' = w := by
  obtain ⟨c0, c1, _⟩ := int_cells h.o
  have hn := none_any bi F (some bm) w h.o
  have hl := h.m.len Try.underlying99
  have HN := Lib.hid hn
  clear h hn
  go_enter Try.func65, Try.ntmps65
  go_wp2_with (go_at_call 98; refine HN.out.mono ?_; rintro e w' ⟨rfl, rfl⟩)
  go_ret
  exact ⟨rfl, rfl⟩
theorem ready_any (bi : Nat) (w : World) : Calls Try.prog 101 #[.pointer (some ⟨bi, 0, none⟩)] w fun e w' => e = .returned (.func (.func 115) #[] #[.pointer (some ⟨w.heap.size, 0, none⟩)]) ∧ w.alloc (.cells #[.pointer (some ⟨bi, 0, none⟩)] 98) = w' := by
  go_enter Try.func101, Try.ntmps101
  go_wp2
  go_ret
  exact ⟨rfl, rfl⟩
theorem new7_any (w : World) : Calls Try.prog 68 #[] w fun e w' => ∃ bi bm, e = .returned (.pointer (some ⟨bi, 0, none⟩)) ∧ IntM w.heap.size w' bi bm 0 [] (fun _ => none) ∧ Step [] w w' := by
  have hmm := @run_makeMap Try.prog
  go_enter Try.func68, Try.ntmps68
  go_wp2
  go_ret
  refine ⟨w.heap.size + 1, w.heap.size, rfl, ⟨?_, ⟨by omega, Nat.le_refl _⟩, ?_, ⟨by simp, fun k x hx => by simp at hx, fun k p h => by cases h⟩⟩, (Step.alloc _ _).trans (Step.alloc _ _)⟩
  · unfold IntObj intObj
    rw [heap_alloc_get, if_pos (by simp)]
    rfl
  · exact (MapV.made w).keep (Step.alloc (S := []) _ _) (by simp)
end Go.Proofs.Ytbainekfbonbjaa
