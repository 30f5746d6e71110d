/- SeqGives: what it computes is true. -/
import Derived.Test.YtbainekfbonbjaaSeqJ
import Derived.OwnWalkIn
import Derived.TacticsInMore
import Derived.LoopNIn
import Derived.LoopIn
import Derived.Deep.QuietTactic
import Derived.BigQuiet
import Derived.Maps.OwnIn
namespace Go.Proofs.Ytbainekfbonbjaa
open Go.RowKit Go.Shelf
set_option linter.unusedVariables false
attribute [local go_sem] Oper.semAt_some

theorem used_q (b u l : Nat) (hl : 1 ≤ l) (w : World) (h : SpaceAt w b u l) : Calls Try.prog 41 #[.pointer (some ⟨b, 0, none⟩)] w fun e w' => e = .returned (.int .u32 (u : Int)) ∧ w' = w :=
  (used_any b u l hl w h).mono fun _ _ h => ⟨h.1, h.2.symm⟩

set_option maxRecDepth 100000 in
set_option maxHeartbeats 1000000 in
theorem gives_walk (lim many : Nat) (hl : lim < 4294967296) (hm : many < 256) (w : World) :
    Calls Try.prog 6 #[.int .u32 (lim : Int), .int .u8 (many : Int)] w fun e w' => e = .returned (.bool true) ∧ Step [] w w' := by
  by_cases hbad : lim < 1 ∨ 2147483648 < lim
  · go_enter Try.func6, Try.ntmps6
    go_wp2_with (first | (go_at_call 37; refine (spaceNew_bad lim hbad _).mono ?_; rintro e w' ⟨rfl, rfl⟩) | (go_at_call 38; refine (refNew_bad lim hbad _).mono ?_; rintro e w' ⟨rfl, rfl⟩) | (go_at_call 23; refine (wakes_any _).mono ?_; rintro e w8 ⟨rfl, hs8⟩; have HS8 := Lib.hid hs8; clear hs8))
    go_ret
    exact ⟨rfl, HS8.out⟩
  · have h1 : 1 ≤ lim := by omega
    have h2 : lim ≤ 2147483648 := by omega
    have hmm : many % 101 < 101 := Nat.mod_lt _ (by omega)
    have e101 : (many : Int) % 101 = ((many % 101 : Nat) : Int) := by omega
    generalize many % 101 = m at *
    clear hbad
    go_enter Try.func6, Try.ntmps6
    go_wp2_with fail
    refine (spaceNew_ok lim h1 h2 w).mono ?_
    rintro e w1 ⟨rfl, hw1⟩
    have hz1 : w.heap.size < w1.heap.size := by rw [← hw1]; simp
    have hs1 : SpaceAt w1 w.heap.size 0 lim := by rw [← hw1]; unfold SpaceAt; rw [heap_alloc_get, if_pos rfl]
    have hst1 : Step [] w w1 := by rw [← hw1]; exact Step.alloc _ _
    have HS1 := Lib.hid hs1
    have HST1 := Lib.hid hst1
    clear hw1 hs1 hst1
    go_wp2_with fail
    refine (refNew_ok lim h1 h2 w1).mono ?_
    rintro e w2 ⟨rfl, hw2⟩
    have hr2 : RefSpaceAt w2 w1.heap.size 0 lim := by rw [← hw2]; unfold RefSpaceAt; rw [heap_alloc_get, if_pos rfl]
    have hst2 : Step [] w1 w2 := by rw [← hw2]; exact Step.alloc _ _
    have HS2 := Lib.hid (show SpaceAt w2 w.heap.size 0 lim from obj_step HS1.out hst2 (by simp))
    have HST2 := Lib.hid (HST1.out.trans hst2)
    have HR2 := Lib.hid hr2
    clear hw2 hr2 hst2 HS1 HST1
    go_wp2
    simp only [e101]
    go_loopw [35] (fun i wr => ∃ k u : Nat, k ≤ m ∧ i = .int .u8 (k : Int) ∧ u ≤ lim ∧ Hid (SpaceAt wr w.heap.size u lim ∧ RefSpaceAt wr w1.heap.size u lim) ∧ Hid (Step [] w wr)) (fun i wr => m - (intOf i).toNat)
    case atStart => exact ⟨0, 0, by omega, rfl, by omega, ⟨HS2.out, HR2.out⟩, HST2⟩
    case round =>
      obtain ⟨k, u, hk, rfl, hu, hsp, hst⟩ := hrel
      clear HS2 HST2 HR2
      by_cases hlt : k < m
      · go_wp2_with fail
        refine (next_any w.heap.size u lim h1 hu hl wr hsp.out.1).mono ?_
        rintro e w3 ⟨rfl, ha3, hb3⟩
        have HR3 := Lib.hid (show RefSpaceAt w3 w1.heap.size u lim from obj_step hsp.out.2 hb3 (fun h => by simp at h <;> omega))
        have HA3 := Lib.hid ha3
        have HB3 := Lib.hid hb3
        clear ha3 hb3
        go_wp2_with fail
        refine (refNext_any w1.heap.size u lim hu hl w3 HR3.out).mono ?_
        rintro e w4 ⟨rfl, ha4, hb4⟩
        have hs4 : SpaceAt w4 w.heap.size (min (u + 1) lim) lim := obj_step HA3.out hb4 (fun h => by simp at h <;> omega)
        have HS4 := Lib.hid hs4
        have HR4 := Lib.hid ha4
        have HB4 := Lib.hid hb4
        have hst4 : Step [] w w4 := (hst.out.trans' HB3.out (fun _ h _ => h) (fun i h hl => by simp at h; omega)).trans' HB4.out (fun _ h _ => h) (fun i h hl => by simp at h; omega)
        have HST4 := Lib.hid hst4
        obtain ⟨c0, c1, _⟩ := space_cells ha4
        have hu' : min (u + 1) lim ≤ lim := by omega
        clear ha4 hb4 hs4 hst4 HR3 HA3 HB3 HB4 hsp hst
        generalize min (u + 1) lim = u' at *
        generalize nextN u lim = nv at *
        generalize nextE u lim = ev at *
        have b1 : ((nv : Int) != (nv : Int)) = false := by simp
        have b2 : ((ev : Int) != (ev : Int)) = false := by simp
        have b3 : ((u' : Int) != (u' : Int)) = false := by simp
        have b4 : (((lim : Int) - (u' : Int)) != ((lim : Int) - (u' : Int))) = false := by simp
        have hsub : IntKind.u32.wrap ((lim : Int) - (u' : Int)) = (lim : Int) - (u' : Int) := by rw [IntKind.wrap_u32']; omega
        go_wp2_with fail
        go_quiet ((first | (go_at_call 41; exact Calls.quiet_of_same (used_q w.heap.size u' lim h1 _ HS4.out)) | (go_at_call 42; exact Calls.quiet_of (left_any w.heap.size u' lim h1 hu' hl _ HS4.out))))
        clear hsub b1 b2 b3 b4
        go_wp2
        go_roundw
        case rel => exact ⟨k + 1, u', by omega, by go_num, hu', ⟨HS4.out, HR4.out⟩, HST4.out.trans (Step.drewN _ _)⟩
        case measure => simp [intOf]; omega

      · go_wp2_with (go_at_call 23; refine (wakes_any _).mono ?_; rintro e w8 ⟨rfl, hs8⟩; have HS8 := Lib.hid hs8; clear hs8)
        go_ret
        exact ⟨rfl, hst.out.trans HS8.out⟩
end Go.Proofs.Ytbainekfbonbjaa
