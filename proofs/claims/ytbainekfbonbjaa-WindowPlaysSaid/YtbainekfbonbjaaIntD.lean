/- intake: Told. No statement is proved here; nothing is assumed. -/
import Derived.Test.YtbainekfbonbjaaIntB
import Derived.Test.YtbainekfbonbjaaIntC
namespace Go.Proofs.Ytbainekfbonbjaa
open Go.RowKit Go.Shelf
set_option linter.unusedVariables false
set_option linter.unusedSimpArgs false
attribute [local go_sem] Oper.semAt_some

theorem enters99 : Enters Try.prog 99 := enters_of Try.func99 (by kernel_rfl) rfl
theorem has7_asks (bi F bm : Nat) (M : Ents) : AsksF 99 #[.pointer (some ⟨bi, 0, none⟩)] #[] (hasE M) (Behind F) (fun W => IntObj W bi F (some bm) ∧ MapV W bm M) := by
  intro x W hx hr
  refine (has7_any bi F bm x hx.2.2 M W hr.1 hr.2).mono ?_
  rintro e w' ⟨rfl, rfl⟩
  exact ⟨rfl, Step.refl _ _⟩
theorem keep1s {W0 W W' : World} {a : Addr} {x : Value} (hs : Step [] W W') (h : W.cell? a = some x ∧ Step [] W0 W) : W'.cell? a = some x ∧ Step [] W0 W' := ⟨step_cell hs h.1, h.2.trans hs⟩
theorem keep1z {W : World} {a : Addr} {x : Value} (h : W.cell? a = some x) : W.drew.cell? a = some x ∧ Step [] W W.drew := ⟨h, Step.drew _⟩
theorem keep2s {W0 W W' : World} {a b : Addr} {x y : Value} (hs : Step [] W W') (h : W.cell? a = some x ∧ W.cell? b = some y ∧ Step [] W0 W) : W'.cell? a = some x ∧ W'.cell? b = some y ∧ Step [] W0 W' := ⟨step_cell hs h.1, step_cell hs h.2.1, h.2.2.trans hs⟩
theorem keep2z {W : World} {a b : Addr} {x y : Value} (h : W.cell? a = some x) (k : W.cell? b = some y) : W.drew.cell? a = some x ∧ W.drew.cell? b = some y ∧ Step [] W W.drew := ⟨h, k, Step.drew _⟩
set_option maxRecDepth 100000 in
set_option maxHeartbeats 2000000 in
theorem told7_any (B bi bm F : Nat) (hF : F < 4294967296) (M : Ents) (f : Kept7) (w : World) (h : IntM B w bi bm F M f) :
    Calls Try.prog 63 #[.pointer (some ⟨bi, 0, none⟩)] w fun e w' => e = .returned (.tuple #[.int .u32 (F : Int), .int .u32 (maskOf F (hasE M) : Int)]) ∧ Step [] w w' := by
  obtain ⟨c0, c1, _⟩ := int_cells h.o
  have HN := Lib.hid (none_any bi F (some bm) w h.o)
  have HF := Lib.hid hF
  have HO := Lib.hid (And.intro h.o h.m)
  generalize hm : maskOf F (hasE M) = mk
  have HM := Lib.hid hm
  clear h hF hm
  go_enter Try.func63, Try.ntmps63
  go_wp2_with (go_at_call 98; refine HN.out.mono ?_; rintro e w' ⟨rfl, hw⟩; cases hw.symm)
  go_region_held3 (fun W => W.cell? ⟨bi, 0, none⟩ = some (.int .u32 (F : Int)) ∧ Step [] w W)
    (first | exact keep1z c0 | exact keep1s ‹_› ‹_›)
    (first
      | (go_at_call 31; refine (maskF_any F HF.out enters99 (hasE M) (has7_asks bi F bm M) _ (fun W' hs => by
          have hs0 : Step [] w W' := Step.trans (And.right ‹_›) hs
          exact ⟨obj_step HO.out.1 hs0 (by simp), HO.out.2.keep hs0 (by simp)⟩)).mono ?_; rintro e w' ⟨rfl, hs⟩; rw [HM.out]))
  rename_i hHeld
  go_wp2
  go_ret2
  exact ⟨rfl, hHeld.2⟩
end Go.Proofs.Ytbainekfbonbjaa
