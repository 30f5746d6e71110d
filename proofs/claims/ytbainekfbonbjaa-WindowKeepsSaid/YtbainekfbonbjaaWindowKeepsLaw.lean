/- WindowKeeps: for every input the law returns true, and nothing that lay ahead of the call has turned. No condition. -/
import Derived.Test.YtbainekfbonbjaaWinR
import Derived.Test.YtbainekfbonbjaaChecked
import Derived.Test.YtbainekfbonbjaaRows
import Derived.WalkKit
import Derived.ProofKit
import Derived.OpenShut
import Derived.ShutString
import Derived.ChangeOld
import Derived.Below
namespace Go.Proofs.Ytbainekfbonbjaa.windowKeeps
open Go.ChangeShapes Go.WideShapes Go.ChangeAt Go.RowKit
set_option linter.unusedVariables false

theorem own : ownKnob Try.prog.godebug = none := by kernel_rfl
theorem laidOut : laidOutB Try.prog = true := by kernel_rfl

theorem walk (q : Option Addr) (n c : Nat) (a1 : Int) (V : Nat → Nat → Value) (w : World) (h1 : n ≤ c) (h2 : c ≤ maxLen) (h3 : RowOf w q n 5 V)
    (h4 : ∀ i, i < n → ∃ a q n cap xs t k m, ActIs w (V i) a q n cap xs t k m) (w1 : (Lit.int .u8 a1).wf = true) :
    Calls Try.prog 16 #[.slice q n c, .int .u8 a1] w fun e w' => e = .returned (.bool true) ∧ Step [] w w' := by
  have b1 := bounds_u8 w1
  obtain ⟨y, rfl⟩ := Int.eq_ofNat_of_zero_le b1.1
  exact keeps_walk q n c y h1 h2 V (by omega) w h3 h4

set_option maxRecDepth 100000 in
theorem lifted (os : Os) (started : os.Started) (H : Type) (enc : TypeId × Value → H) :
    ReturnsInHanded {} Try.checked os 16 .any (Rows.windowKeepsSpec.pre6 enc Try.prog Try.f16 Rows.windowKeepsRow.domain false) (Rows.windowKeepsSpec.post enc Try.prog Try.f16 false true false false) := by
  refine returnsInHanded_of_change (C := Try.checked) own started (by kernel_rfl) Try.func16
    (ChangeSpec.witness6 (enc := enc) (C := Try.checked) false ⟨#[], #[.slice none 0 0, .int .u8 0], []⟩ 8 (by kernel_rfl) (by kernel_rfl) (by kernel_rfl) (by kernel_rfl)) ?_
  intro W base args ds gs before hval0 hW hcnd _
  have hval : ∀ (j : Nat) t v, Try.f16.params[j]? = some t → args[j]? = some v → Value.okWide Try.prog W .any base t v := hval0
  have hW' := hW
  obtain ⟨p, q, hA0, hV, rfl, hfz, hnd⟩ := hW
  have hA : DataW.TrodAll enc Try.prog W 0 (fun _ => true) true Try.f16.params.toList args.toList ds p := hA0
  rw [Try.params16] at hA hval
  obtain ⟨v0, vs0, d0, ds0, p0, q0, hargs, rfl, rfl, h0, r0⟩ := trodAll_cons hA
  obtain ⟨v1, vs1, d1, ds1, p1, q1, rfl, rfl, rfl, h1, r1⟩ := trodAll_cons r0
  obtain ⟨rfl, rfl, rfl⟩ := trodAll_nil r1
  obtain rfl : args = #[v0, v1] := by cases args; simp_all
  obtain ⟨rfl, rfl⟩ := trodVars_none hV
  have lt0 : ∀ x ∈ p0, x.block < W.heap.size := by obtain ⟨m, hm⟩ := h0; exact DataW.trod_lt m _ _ _ hm
  have lt1 : ∀ x ∈ p1, x.block < W.heap.size := by obtain ⟨m, hm⟩ := h1; exact DataW.trod_lt m _ _ _ hm
  obtain ⟨qq, n, c, V, rfl, HC1, HC2, HR, HV⟩ := open_acts6 (hval 0 63 v0 rfl rfl) h0
  have hi1 := open_int Try.underlying5 (hval 1 5 v1 rfl rfl) h1
  obtain ⟨a1, rfl, hd1, hp1, w1⟩ := hi1
  have b1 := bounds_u8 w1
  clear hA0 hval0
  refine (walk qq n c a1 V W HC1 HC2 HR HV w1).mono fun e W' ⟨he, hst⟩ => ?_
  have bel := hst.below
  subst he
  exact ⟨_, rfl, _, _, _, [], _, [], hW', trodAll_mk1 (shut_bool Try.underlying4 _), (trodAll_cons_mk (Below.trod laidOut (by kernel_rfl) (of_decide_eq_true (by kernel_rfl)) h0 bel lt0) (trodAll_cons_mk (Below.trod laidOut (by kernel_rfl) (of_decide_eq_true (by kernel_rfl)) h1 bel lt1) trodAll_mk0)), rfl, bel.frame _, fun h => by cases h⟩

theorem over : Rows.windowKeepsRow.holds Try.pinned (OpenSpec.ofChange Rows.windowKeepsSpec) :=
  OpenClaim.holds_of_wide 16 Try.f16 rfl rfl rfl rfl rfl rfl rfl ⟨rfl, rfl, rfl, rfl, rfl⟩ rfl rfl rfl rfl rfl (by kernel_rfl) Try.func16 (by kernel_rfl)
    (of_decide_eq_true (by kernel_rfl)) (by unfold Func.isWrapper; first | (rw [if_pos (by decide +kernel)]; kernel_rfl) | (rw [if_neg (by decide +kernel)]; exact ⟨rfl, rfl⟩))
    (fun os started H enc _ => lifted os started H enc)

theorem proved : Rows.WindowKeepsSaid :=
  over
#print axioms proved
end Go.Proofs.Ytbainekfbonbjaa.windowKeeps
