/- SeqSpans: for every input the law returns true, and nothing that lay ahead of the call has turned. No condition. -/
import Derived.Test.YtbainekfbonbjaaSeqN1
import Derived.Test.YtbainekfbonbjaaSeqN2
import Derived.Test.YtbainekfbonbjaaSeqN3
import Derived.Test.YtbainekfbonbjaaSeqN4
import Derived.Test.YtbainekfbonbjaaOpen
import Derived.WalkKit
import Derived.ProofKit
import Derived.OpenShut
import Derived.ShutString
import Derived.ChangeOld
import Derived.Below
namespace Go.Proofs.Ytbainekfbonbjaa.seqSpans
open Go.ChangeShapes Go.WideShapes Go.ChangeAt Go.RowKit
set_option linter.unusedVariables false

theorem own : ownKnob Try.prog.godebug = none := by kernel_rfl
theorem laidOut : laidOutB Try.prog = true := by kernel_rfl

theorem walk (f t ack mask : Nat) (hf : f < 4294967296) (ht : t < 4294967296) (ha : ack < 4294967296) (hm : mask < 4294967296) (p : Option Addr) (n cap : Nat) (xs : List Nat) (w : World) (h : IsN .u32 w (.slice p n cap) xs) :
    Calls Try.prog 4 #[.agg #[.int .u32 (f : Int), .int .u32 (t : Int)], .slice p n cap, .agg #[.int .u32 (ack : Int), .int .u32 (mask : Int)]] w fun e w' => e = .returned (.bool true) ∧ Step [] w w' := by
  by_cases hd : (t : Int) - (f : Int) < 0
  · by_cases hn : (30 : Int) < (n : Int)
    · exact spans_walk1 f t ack mask hf ht ha hm p n cap xs w hd hn h
    · exact spans_walk2 f t ack mask hf ht ha hm p n cap xs w hd (by omega) h
  · by_cases hn : (30 : Int) < (n : Int)
    · exact spans_walk3 f t ack mask hf ht ha hm p n cap xs w (by omega) hn h
    · exact spans_walk4 f t ack mask hf ht ha hm p n cap xs w (by omega) (by omega) h

set_option maxRecDepth 100000 in
theorem lifted (os : Os) (started : os.Started) (H : Type) (enc : TypeId × Value → H) :
    ReturnsInHanded {} Try.checked os 4 .any (Rows.seqSpansSpec.pre6 enc Try.prog Try.f4 Rows.seqSpansRow.domain false) (Rows.seqSpansSpec.post enc Try.prog Try.f4 false true false false) := by
  refine returnsInHanded_of_change (C := Try.checked) own started (by kernel_rfl) Try.func4
    (ChangeSpec.witness6 (enc := enc) (C := Try.checked) false ⟨#[], #[.agg #[.int .u32 0, .int .u32 0], .slice none 0 0, .agg #[.int .u32 0, .int .u32 0]], []⟩ 8 (by kernel_rfl) (by kernel_rfl) (by kernel_rfl) (by kernel_rfl)) ?_
  intro W base args ds gs before hval0 hW hcnd _
  have hval : ∀ (j : Nat) t v, Try.f4.params[j]? = some t → args[j]? = some v → Value.okWide Try.prog W .any base t v := hval0
  have hW' := hW
  obtain ⟨p, q, hA0, hV, rfl, hfz, hnd⟩ := hW
  have hA : DataW.TrodAll enc Try.prog W 0 (fun _ => true) true Try.f4.params.toList args.toList ds p := hA0
  rw [Try.params4] at hA hval
  obtain ⟨v0, vs0, d0, ds0, p0, q0, hargs, rfl, rfl, h0, r0⟩ := trodAll_cons hA
  obtain ⟨v1, vs1, d1, ds1, p1, q1, rfl, rfl, rfl, h1, r1⟩ := trodAll_cons r0
  obtain ⟨v2, vs2, d2, ds2, p2, q2, rfl, rfl, rfl, h2, r2⟩ := trodAll_cons r1
  obtain ⟨rfl, rfl, rfl⟩ := trodAll_nil r2
  obtain rfl : args = #[v0, v1, v2] := by cases args; simp_all
  obtain ⟨rfl, rfl⟩ := trodVars_none hV
  have lt0 : ∀ x ∈ p0, x.block < W.heap.size := by obtain ⟨m, hm⟩ := h0; exact DataW.trod_lt m _ _ _ hm
  have lt1 : ∀ x ∈ p1, x.block < W.heap.size := by obtain ⟨m, hm⟩ := h1; exact DataW.trod_lt m _ _ _ hm
  have lt2 : ∀ x ∈ p2, x.block < W.heap.size := by obtain ⟨m, hm⟩ := h2; exact DataW.trod_lt m _ _ _ hm
  obtain ⟨f, t, rfl, hf, ht⟩ := open_span (hval 0 25 v0 rfl rfl) h0
  obtain ⟨q, n, cap, xs, rfl, hxs, hx⟩ := open_nums (hval 1 26 v1 rfl rfl) h1
  obtain ⟨ack, mask, rfl, ha, hm⟩ := open_two (hval 2 35 v2 rfl rfl) h2
  clear hA0 hval0
  refine (walk f t ack mask hf ht ha hm q n cap xs W hxs).mono fun e W' ⟨he, hst⟩ => ?_
  have bel := hst.below
  subst he
  exact ⟨_, rfl, _, _, _, [], _, [], hW', trodAll_mk1 (shut_bool Try.underlying4 _), (trodAll_cons_mk (Below.trod laidOut (by kernel_rfl) (of_decide_eq_true (by kernel_rfl)) h0 bel lt0) (trodAll_cons_mk (Below.trod laidOut (by kernel_rfl) (of_decide_eq_true (by kernel_rfl)) h1 bel lt1) (trodAll_cons_mk (Below.trod laidOut (by kernel_rfl) (of_decide_eq_true (by kernel_rfl)) h2 bel lt2) trodAll_mk0))), rfl, bel.frame _, fun h => by cases h⟩

theorem over : Rows.seqSpansRow.holds Try.pinned (OpenSpec.ofChange Rows.seqSpansSpec) :=
  OpenClaim.holds_of_wide 4 Try.f4 rfl rfl rfl rfl rfl rfl rfl ⟨rfl, rfl, rfl, rfl, rfl⟩ rfl rfl rfl rfl rfl (by kernel_rfl) Try.func4 (by kernel_rfl)
    (of_decide_eq_true (by kernel_rfl)) (by unfold Func.isWrapper; first | (rw [if_pos (by decide +kernel)]; kernel_rfl) | (rw [if_neg (by decide +kernel)]; exact ⟨rfl, rfl⟩))
    (fun os started H enc _ => lifted os started H enc)

theorem proved : Rows.SeqSpansSaid :=
  over
#print axioms proved
end Go.Proofs.Ytbainekfbonbjaa.seqSpans
