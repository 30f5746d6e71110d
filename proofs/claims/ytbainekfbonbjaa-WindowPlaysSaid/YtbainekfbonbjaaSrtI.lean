/- slices.Sort at numbers of 32 bits, up to so many as pdqsort is known for. No statement is proved here; nothing is assumed. -/
import Derived.Test.YtbainekfbonbjaaSrtG
import Derived.Sort.AssemblyPlain
import Derived.Sort.Grow
import Derived.Sort.Walk13a
namespace Go.Proofs.Ytbainekfbonbjaa
open Go.RowKit Go.Sort
set_option linter.unusedVariables false
set_option linter.unusedSimpArgs false

theorem srt_ins_nil (p : Option Addr) (cap : Nat) (w : World) :
    Calls Try.prog 124 #[.slice p 0 cap, .int .i64 0, .int .i64 0] w fun e w' => e = .returned (.tuple #[]) ∧ w' = w := by
  go_enter Try.func124, Try.ntmps124
  go_wp2
  refine wp_loop_rounds 1 ?_
  rw [rounds_succ]
  go_wp2
  go_end0
  exact ⟨rfl, rfl⟩

set_option maxRecDepth 100000 in
theorem pdq_nil_u (p : Option Addr) (cap : Nat) (w : World) :
    Calls Try.prog 120 #[.slice p 0 cap, .int .i64 0, .int .i64 0, .int .i64 0] w fun e w' => e = .returned (.tuple #[]) ∧ w' = w := by
  go_enter Try.func120, Try.ntmps120
  go_wp2
  refine wp_loop_rounds 1 ?_
  rw [rounds_succ]
  go_wp2_with (first | (go_at_call 124; refine (srt_ins_nil p cap _).mono ?_; rintro e w' ⟨rfl, rfl⟩))
  refine bodyPost_ret (results_none rfl _ _ _) rfl ?_      -- an explicit 'return' in a function without results
  exact ⟨rfl, rfl⟩

set_option maxRecDepth 100000 in
theorem sort_nil_u (p : Option Addr) (cap : Nat) (w : World) :
    Calls Try.prog 111 #[.slice p 0 cap] w fun e w' => e = .returned (.tuple #[]) ∧ w' = w := by
  have hLen : ∀ w, Calls Try.prog 121 #[.int .u64 0] w fun e w' => e = .returned (.int .i64 0) ∧ w' = w := fun w => srt_bits_Len 0 w (by omega)
  go_enter Try.func111, Try.ntmps111
  go_wp2_with (first
    | (go_at_call 121; refine (hLen _).mono ?_; rintro e w' ⟨rfl, rfl⟩)
    | (go_at_call 120; refine (pdq_nil_u p cap _).mono ?_; rintro e w' ⟨rfl, rfl⟩))
  go_end0
  exact ⟨rfl, rfl⟩


abbrev encV : Int → Value := Value.int .u32
/-- pdqsort is known for rows of up to m. -/
def PdqAt (m : Nat) : Prop := ∀ (blk off cap limit : Nat) (d : Array Int) (w : World), Holds encV w blk off d → blk < w.heap.size → d.size ≤ m → limit < 4611686018427387904 →
  Calls Try.prog 120 #[.slice (some ⟨blk, off, none⟩) d.size cap, .int .i64 0, .int .i64 (d.size : Int), .int .i64 (limit : Int)] w fun e w' =>
    e = .returned (.tuple #[]) ∧ ∃ n os, w' = grow (putRow encV (Sort.ahead w n) blk off (Sort.pdq ltInt d 0 d.size limit true true)) os
set_option maxRecDepth 100000 in
theorem pdqAt12 : PdqAt 12 := fun blk off cap limit d w hH hblk hm hl => by
  have hI := insSort_u blk off cap 0 d.size d w hH (Nat.zero_le _) (Nat.le_refl _) (by omega)
  rw [← pdq_small (lt := ltInt) (d := d) (a := 0) (b := d.size) (limit := limit) (wb := true) (wp := true) (by omega)] at hI
  generalize Sort.pdq ltInt d 0 d.size limit true true = R at hI ⊢
  obtain ⟨n, hn⟩ : ∃ n, n = d.size := ⟨_, rfl⟩
  have h12 : (n : Int) ≤ 12 := by omega
  rw [← hn] at hI ⊢
  have HI := Lib.hid hI
  clear hH hm hI hn
  go_enter Try.func120, Try.ntmps120
  go_wp2
  refine wp_loop_rounds 1 ?_
  rw [rounds_succ]
  go_wp2_with (first | (go_at_call 124; refine HI.out.mono ?_; rintro e w' ⟨rfl, n2, rfl⟩))
  refine bodyPost_ret (results_none rfl _ _ _) rfl ?_
  exact ⟨rfl, n2, #[], by rw [grow_empty]⟩
set_option maxRecDepth 100000 in
theorem sort_u {m : Nat} (hP : PdqAt m) (hm : m < 256) (blk off cap : Nat) (d : Array Int) (w : World) (hH : Holds encV w blk off d) (hblk : blk < w.heap.size) (hsz : d.size ≤ m) :
    Calls Try.prog 111 #[.slice (some ⟨blk, off, none⟩) d.size cap] w fun e w' => e = .returned (.tuple #[]) ∧ ∃ n os, w' = grow (putRow encV (Sort.ahead w n) blk off (Sort.sort ltInt d)) os := by
  have HP := Lib.hid (hP blk off cap (bitsLen d.size) d w hH hblk hsz (by have hk : bitsLen d.size ≤ 62 := (bitsLen_le_iff d.size 62).2 (by omega); omega))
  have hS : Sort.sort ltInt d = Sort.pdq ltInt d 0 d.size (bitsLen d.size) true true := by rw [Sort.sort]
  rw [hS]
  have HL := Lib.hid (srt_bits_Len d.size w (by omega))
  rw [bitLen_eq _ (by omega)] at HL
  obtain ⟨n, hn⟩ : ∃ n, n = d.size := ⟨_, rfl⟩
  have h12 : (n : Int) < 256 := by omega
  generalize Sort.pdq ltInt d 0 d.size (bitsLen d.size) true true = R at HP ⊢
  rw [← hn] at HP HL ⊢
  generalize bitsLen n = bl at HP HL
  clear hH hsz hblk hP hm hn hS
  go_enter Try.func111, Try.ntmps111
  go_wp2_with (first
    | (go_at_call 121; refine HL.out.mono ?_; rintro e w' ⟨rfl, hw⟩; cases hw)
    | (go_at_call 120; refine HP.out.mono ?_; rintro e w' ⟨rfl, k, os, rfl⟩))
  go_end0
  exact ⟨rfl, k, os, rfl⟩
end Go.Proofs.Ytbainekfbonbjaa
