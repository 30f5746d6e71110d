/- A region that draws its order, within a round of a range over a function: out of the walk that holds a condition. No statement is proved here; nothing is assumed. -/
import Derived.Test.YtbainekfbonbjaaBase
import Derived.Deep.RegionHeld3
import Derived.OrdersIn
import Derived.OwnWalkIn
namespace Go.Proofs.Ytbainekfbonbjaa
open Go.RowKit Go.Shelf
set_option linter.unusedVariables false

/-- Q at a normal end alone. -/
def Plainly (Q : Exit → Act → World → Prop) : Exit → Act → World → Prop
  | .normal, a, w => Q .normal a w
  | _, _, _ => False
theorem Plainly.not_out {Q : Exit → Act → World → Prop} : ¬ LetsOut (Plainly Q) := fun ⟨_, _, h⟩ => h
def notDefer (o : Oper) : Bool := match o.op with | .defer _ => false | _ => true

theorem uponIn_of {l n : Nat} {P : Program} {o : Oper} {a : Act} {K : Act → World → Prop} {Q : Exit → Act → World → Prop} : ∀ {r : Result Next}, o.upon P a K (Plainly Q) r → o.uponIn (Fence.wide.inRound l) n P a K Q r
  | .ok (.value v) w', h => h
  | .ok .skip w', h => h
  | .ok (.defer d) w', h => h
  | .ok (.enter f args) w', h => by
    refine ⟨fun hd => by simp at hd, inR (h.mono ?_)⟩
    intro e w'' he
    cases e with
    | returned v => exact he
    | panicked c => exact he.elim
    | outgrown => exact (Plainly.not_out he).elim
  | .ok (.row row args) w', h => by
    refine ⟨fun hd => by simp at hd, fun c cs _ => ?_⟩
    obtain ⟨v, w'', r, s⟩ := h c cs
    exact ⟨v, w'', r, stepsIn_wide.2 s⟩
  | .ok (.round ..) w', h => h.elim
  | .halt (.panic v) w', h => h.elim
  | .halt .blocked w', h => h.elim
  | .halt .waiting w', h => h.elim
  | .halt (.unsupported u) w', h => h.elim
  | .ok .numGoroutine w', h => h.elim
theorem wpOpIn_of {l n : Nat} {P : Program} {ops : Array Oper} {Q : Exit → Act → World → Prop} {i : Nat} {a : Act} {w : World} {K K' : Act → World → Prop} (hd : ∀ o ∈ ops.toList, notDefer o = true) (hk : ∀ a w, K a w → K' a w) (h : wpOp P ops (Plainly Q) i K a w) : wpOpIn (Fence.wide.inRound l) n P ops Q i K' a w := by
  unfold wpOp at h
  unfold wpOpIn
  cases ho : ops[i]? with
  | none => rw [ho] at h; exact hk _ _ h
  | some o =>
    rw [ho] at h
    simp only at h ⊢
    by_cases hw : Region.wanted o (yielded ops a.tmps) = true
    · rw [if_pos hw] at h ⊢
      rcases h with h | ⟨_, h⟩
      · refine Oper.wpIn_mono hk ⟨fun f _ => trivial, ?_⟩
        have hod : ∀ c, o.op ≠ .defer c := fun c hc => by
          have := hd o (by simpa using List.mem_of_getElem? (l := ops.toList) (i := i) (by simpa using ho))
          unfold notDefer at this
          rw [hc] at this
          cases this
        rw [Oper.semAt_plain _ _ _ hod]
        exact uponIn_of h
      · exact (Plainly.not_out h).elim
    · rw [if_neg hw] at h ⊢
      exact ⟨fun f _ => trivial, hk _ _ h⟩
theorem wpAnyIn_of {l n : Nat} {P : Program} {md : Region.Mode} {ops : Array Oper} {Q : Exit → Act → World → Prop} (hd : ∀ o ∈ ops.toList, notDefer o = true) : ∀ (fuel : Nat) (listed : Array Bool) (a : Act) (w : World), wpAny P md ops (Plainly Q) fuel listed a w → wpAnyIn (Fence.wide.inRound l) n P md ops Q fuel listed a w
  | 0, _, _, _, h => h
  | fuel + 1, _, _, _, h => ⟨h.1, fun i hi => wpOpIn_of hd (fun a' w' h' => wpAnyIn_of hd fuel _ a' w' h') (h.2 i hi)⟩
/-- A REGION THAT DRAWS ITS ORDER, IN A ROUND. -/
theorem wpIn_region_round {l n id : Nat} {P : Program} {ops : Array Oper} {Q : Exit → Act → World → Prop} {a : Act} {w : World} (hm : P.follows .mixedOrders = true) (hd : (ops.toList.all notDefer) = true) (S : World → Prop)
    (h : wpAnyH P .any ops (Plainly Q) S ops.size (Array.replicate ops.size false) a w.drew) : (Code.region id ops true).wpIn (Fence.wide.inRound l) n P Q a w :=
  wpIn_region_any hm (wpAnyIn_of (fun o ho => List.all_eq_true.1 hd o ho) _ _ _ _ (wpAny_of_held _ _ _ _ h))
end Go.Proofs.Ytbainekfbonbjaa
