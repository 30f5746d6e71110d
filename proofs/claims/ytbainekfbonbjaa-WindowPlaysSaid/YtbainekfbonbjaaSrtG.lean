/- math/bits.Len of a small number. No statement is proved here; nothing is assumed. -/
import Derived.Test.YtbainekfbonbjaaSrtB
import Derived.Sort.WalkA14
namespace Go.Proofs.Ytbainekfbonbjaa
open Go.RowKit Go.Sort
set_option linter.unusedVariables false
set_option linter.unusedSimpArgs false

theorem len8_at : ∀ n : Fin 256, wrap64 (wrap64 ((Lib.len8tab.get! n.1).toNat : Int)) = (Lib.bitLen n.1 : Int) := by decide +kernel
set_option maxHeartbeats 4000000 in
set_option maxRecDepth 100000 in
theorem srt_bits_Len64 (x : Nat) (w : World) (hx : x < 256) :
    Calls Try.prog 133 #[.int .u64 (x : Int)] w fun e w' => e = .returned (.int .i64 (Lib.bitLen x)) ∧ w' = w := by
  have e1 : ((4294967296 : Int) ≤ (x : Int)) = False := by simp; omega
  have e2 : ((65536 : Int) ≤ (x : Int)) = False := by simp; omega
  have e3 : ((256 : Int) ≤ (x : Int)) = False := by simp; omega
  go_enter Try.func133, Try.ntmps133
  go_wp2
  go_ret
  refine ⟨congrArg Ending.returned (congrArg (Value.int IntKind.i64) ?_), rfl⟩
  have h := len8_at ⟨x, hx⟩
  have e : ∀ (hlt : x < Lib.len8tab.size), Lib.len8tab[x]'hlt = Lib.len8tab.get! x := fun hlt => by
    show Lib.len8tab.data[x]'hlt = Lib.len8tab.data[x]!
    rw [getElem!_pos Lib.len8tab.data x hlt]
  rw [e]
  exact h
set_option maxRecDepth 100000 in
theorem srt_bits_Len (x : Nat) (w : World) (hx : x < 256) :
    Calls Try.prog 121 #[.int .u64 (x : Int)] w fun e w' => e = .returned (.int .i64 (Lib.bitLen x)) ∧ w' = w := by
  have HL := Lib.hid (srt_bits_Len64 x w hx)
  go_enter Try.func121, Try.ntmps121
  go_wp2_with (go_at_call 133; refine HL.out.mono ?_; rintro e w' ⟨rfl, rfl⟩)
  go_ret
  exact ⟨rfl, rfl⟩
end Go.Proofs.Ytbainekfbonbjaa
