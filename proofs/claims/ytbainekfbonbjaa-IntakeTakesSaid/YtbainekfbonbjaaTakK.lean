/- IntakeTakes: both intakes side by side. No statement is proved here; nothing is assumed. -/
import Derived.Test.YtbainekfbonbjaaTakJ
namespace Go.Proofs.Ytbainekfbonbjaa
open Go.RowKit Go.Shelf
set_option linter.unusedVariables false
set_option linter.unusedSimpArgs false
attribute [local go_sem] Oper.semAt_some

/-- Floor, of an intake whose own block alone is known. -/
theorem floor_o (bi bm F : Nat) (w : World) (h : IntObj w bi F (some bm)) : Calls Try.prog 64 #[.pointer (some ⟨bi, 0, none⟩)] w fun e w' => e = .returned (.int .u32 (F : Int)) ∧ w' = w := by
  obtain ⟨c0, c1, _⟩ := int_cells h
  have HN := Lib.hid (none_any bi F (some bm) w h)
  clear h
  go_enter Try.func64, Try.ntmps64
  go_wp2_with (go_at_call 98; refine HN.out.mono ?_; rintro e w' ⟨rfl, hw⟩; cases hw.symm)
  go_ret
  exact ⟨rfl, rfl⟩
/-- An intake, where of the old blocks only such as a reference's is made of have turned. -/
theorem IntM.overR {B : Nat} {W W' : World} {bi bm F : Nat} {M : Ents} {f : Kept7} (h : IntM B W bi bm F M f) (hs : StepR B W W') : IntM B W' bi bm F M f := by
  obtain ⟨S, h1, h2⟩ := hs
  refine h.keepG h1 (fun hm => ?_) (fun hm => ?_) (fun q hq g hg hm => ?_)
  · obtain ⟨cur, e, fr, e1, e2⟩ := (h2 _ hm).2 _ h.o
    unfold intObj at e1
    injection e1 with q1 q2 q3
    subst q2
    rcases e2 with h | h <;> cases h
  · obtain ⟨es, c, hb⟩ := h.m.block
    obtain ⟨cur, e, fr, e1, e2⟩ := (h2 _ hm).2 _ hb
    cases e1
  · obtain ⟨p, _, hp⟩ := h.r.to q.1 q.2 hq
    obtain ⟨cur, hc⟩ := hp.block hg
    exact refTy_not5 (h2 g hm).2 cur hc
/-- A reference's intake, where an intake's own block and its map have turned. -/
theorem RefM.overI {B : Nat} {W W' : World} {br F bi bm F2 : Nat} {sv : Value} {K M : Ents} {f f2 : Kept7} (h : RefM B W br F sv K f) (hi : IntM B W bi bm F2 M f2) (hs : Step [bi, bm] W W') : RefM B W' br F sv K f := by
  obtain ⟨es, c, hb⟩ := hi.m.block
  have ho : W.heap[bi]? = some (intObj F2 (some bm)) := hi.o
  refine ⟨obj_step h.o hs (fun hm => ?_), h.lo, row_step h.row hs (fun g hg hm => ?_), ⟨h.r.nd, fun k x hx => ?_, h.r.fro⟩⟩
  · simp at hm
    rcases hm with e | e
    · have := h.o; rw [e, ho] at this; cases this
    · have := h.o; rw [e, hb] at this; cases this
  · rcases h.row.2 with ⟨h1, _⟩ | ⟨g', cap', cur', h1, _, hg', _⟩
    · rw [h1] at hg; cases hg
    · rw [h1] at hg
      obtain rfl : g' = g := by simpa [Value.ownBlock] using hg
      simp at hm
      rcases hm with e | e
      · rw [e, ho] at hg'; cases hg'
      · rw [e, hb] at hg'; cases hg'
  · obtain ⟨q, h1, h2⟩ := h.r.to k x hx
    refine ⟨q, h1, h2.1.step hs (fun g hg hm => ?_), h2.2⟩
    obtain ⟨cur', hc'⟩ := h2.block hg
    simp at hm
    rcases hm with e | e
    · rw [e, ho] at hc'; cases hc'
    · rw [e, hb] at hc'; cases hc'
end Go.Proofs.Ytbainekfbonbjaa
