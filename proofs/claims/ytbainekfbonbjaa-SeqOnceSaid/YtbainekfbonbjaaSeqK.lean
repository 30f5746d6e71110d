/- SeqOnce: what it computes is true. -/
import Derived.Test.YtbainekfbonbjaaSeqJ
import Derived.OwnWalkIn
import Derived.TacticsInMore
import Derived.LoopNIn
import Derived.LoopIn
import Derived.Deep.QuietTactic
import Derived.BigQuiet
import Derived.Maps.OwnIn
namespace Go.Proofs.Ytbainekfbonbjaa
open Go.RowKit Go.Shelf
set_option linter.unusedVariables false
attribute [local go_sem] Oper.semAt_some


set_option maxRecDepth 100000 in
set_option maxHeartbeats 2000000 in
theorem once_walk (lim many : Nat) (hm : many < 256) (w : World) :
    Calls Try.prog 7 #[.int .u8 (lim : Int), .int .u8 (many : Int)] w fun e w' => e = .returned (.bool true) ∧ Step [] w w' := by
  have hl : lim % 40 < 40 := Nat.mod_lt _ (by omega)
  have e40 : (lim : Int) % 40 = ((lim % 40 : Nat) : Int) := by omega
  generalize lim % 40 = m at *
  go_enter Try.func7, Try.ntmps7
  go_wp2_with fail
  rw [show (1 : Int) + (m : Int) = ((m + 1 : Nat) : Int) from by omega]
  refine (spaceNew_ok (m + 1) (by omega) (by omega) w).mono ?_
  rintro e w1 ⟨rfl, hw1⟩
  have hs0 : SpaceAt w1 w.heap.size 0 (m + 1) := by rw [← hw1]; unfold SpaceAt; rw [heap_alloc_get, if_pos rfl]
  have hst0 : Step [] w w1 := by rw [← hw1]; exact Step.alloc _ _
  have HS0 := Lib.hid hs0
  have HST0 := Lib.hid hst0
  clear hw1 hs0 hst0
  go_wp2
  go_loopw [25] (fun i wr => ∃ k : Nat, k ≤ many ∧ i = .int .i64 (k : Int) ∧ Hid (SpaceAt wr w.heap.size (min k (m + 1)) (m + 1)) ∧ Hid (Step [] w wr)) (fun i wr => many - (intOf i).toNat)
  case atStart => exact ⟨0, by omega, rfl, by simpa using HS0, HST0⟩
  case round =>
    obtain ⟨k, hk, rfl, hsp, hst⟩ := hrel
    clear HS0 HST0
    by_cases hlt : k < many
    · by_cases hk2 : k < m + 1
      · have hsp' : SpaceAt wr w.heap.size k (m + 1) := by have := hsp.out; rwa [show min k (m + 1) = k from by omega] at this
        have b1 : ((k : Int) != (k : Int)) = false := by simp
        have b2 : (((k : Int) + 1) != ((k : Int) + 1)) = false := by simp
        go_wp2_with fail
        refine (next_ok w.heap.size k (m + 1) (by omega) hk2 (by omega) wr hsp').mono ?_
        rintro e w2 ⟨rfl, ha, hb⟩
        have HA := Lib.hid ha
        have HB := Lib.hid hb
        clear ha hb hsp'
        go_wp2_with (first | (go_at_call 41; refine (used_any w.heap.size (k + 1) (m + 1) (by omega) _ HA.out).mono ?_; rintro e w' ⟨rfl, rfl⟩) | (go_at_call 42; refine (left_any w.heap.size (k + 1) (m + 1) (by omega) (by omega) (by omega) _ HA.out).mono ?_; rintro e w' ⟨rfl, n, rfl⟩))
        go_roundw
        case rel => exact ⟨k + 1, by omega, by go_num, by rw [show min (k + 1) (m + 1) = (k + 1) from by omega]; exact HA.out, hst.out.trans' (T := [w.heap.size]) (HB.out.trans (Step.drewN _ n)) (fun _ h _ => h) (fun i h hl => by simp at h; omega)⟩
        case measure => simp [intOf]; omega
      · have hsp' : SpaceAt wr w.heap.size (m + 1) (m + 1) := by have := hsp.out; rwa [show min k (m + 1) = m + 1 from by omega] at this
        go_wp2_with fail
        refine (next_full w.heap.size (m + 1) (by omega) (by omega) wr hsp').mono ?_
        rintro e w2 ⟨rfl, ha, hb⟩
        have HA := Lib.hid ha
        have HB := Lib.hid (hb.nil_mono (U := [w.heap.size]))
        clear ha hb hsp'
        go_wp2_with (first | (go_at_call 41; refine (used_any w.heap.size (m + 1) (m + 1) (by omega) _ HA.out).mono ?_; rintro e w' ⟨rfl, rfl⟩) | (go_at_call 42; refine (left_any w.heap.size (m + 1) (m + 1) (by omega) (by omega) (by omega) _ HA.out).mono ?_; rintro e w' ⟨rfl, n, rfl⟩))
        go_roundw
        case rel => exact ⟨k + 1, by omega, by go_num, by rw [show min (k + 1) (m + 1) = (m + 1) from by omega]; exact HA.out, hst.out.trans' (T := [w.heap.size]) (HB.out.trans (Step.drewN _ n)) (fun _ h _ => h) (fun i h hl => by simp at h; omega)⟩
        case measure => simp [intOf]; omega
    · go_wp2_with (go_at_call 23; refine (wakes_any _).mono ?_; rintro e w8 ⟨rfl, hs8⟩; have HS8 := Lib.hid hs8; clear hs8)
      go_ret
      exact ⟨rfl, hst.out.trans HS8.out⟩

end Go.Proofs.Ytbainekfbonbjaa
