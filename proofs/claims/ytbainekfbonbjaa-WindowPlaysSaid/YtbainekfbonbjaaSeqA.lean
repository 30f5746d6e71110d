/- The iterators of package seq, each by its contract; no condition but that numbers are uint32. -/
import Derived.Test.YtbainekfbonbjaaBase
import Derived.Test.YtbainekfbonbjaaRows
import Derived.OwnWalkIn
import Derived.TacticsInMore
import Derived.LoopNIn
import Derived.LoopIn
import Derived.Deep.QuietTactic
import Derived.BigQuiet
import Derived.Maps.OwnIn
namespace Go.Proofs.Ytbainekfbonbjaa
open Go.RowKit Go.Shelf
set_option linter.unusedVariables false
attribute [local go_sem] Oper.semAt_some

abbrev encU (n : Nat) : Array Value := #[.int .u32 (n : Int)]
def spanObj (f t : Nat) : Obj := .cells #[.int .u32 (f : Int), .int .u32 (t : Int)] 25

theorem span_cell0 {W : World} {b f t : Nat} (h : W.heap[b]? = some (spanObj f t)) : W.cell? ⟨b, 0, none⟩ = some (.int .u32 (f : Int)) := by simp [World.cell?, h, spanObj]
theorem span_cell1 {W : World} {b f t : Nat} (h : W.heap[b]? = some (spanObj f t)) : W.cell? ⟨b, 1, none⟩ = some (.int .u32 (t : Int)) := by simp [World.cell?, h, spanObj]

theorem range'_pre (f m k : Nat) (h : k < m) : List.range' f k ++ [f + k] <+: List.range' f m := by
  have e : List.range' f k ++ [f + k] = List.range' f (k + 1) := by rw [List.range'_concat]; simp
  rw [e]
  refine ⟨List.range' (f + (k + 1)) (m - (k + 1)), ?_⟩
  rw [List.range'_append_1]; congr 1; omega

/-- How many numbers stand behind ack that a mask can tell of. -/
def behindLen (ack : Nat) : Nat := min 32 (4294967295 - ack)

set_option maxRecDepth 100000 in
set_option maxHeartbeats 1000000 in
theorem all_gives (f t b : Nat) (ht : t < 4294967296) (hf : f < 4294967296) :
    Gives Try.prog 87 #[.pointer (some ⟨b, 0, none⟩)] encU (fun pre x => pre ++ [x] <+: List.range' f (t - f)) (fun xs => xs = List.range' f (t - f)) (fun W => W.heap[b]? = some (spanObj f t)) := by
  intro l J Jx W X hX hJ hJx hR hY h0
  have c0 := span_cell0 (hR _ _ h0)
  refine (callsIn_wide (n := 0)).1 (callsIn_of_wp Try.func87 rfl trivial ?_ rfl)
  simp only [Try.ntmps87, List.size_toArray, List.length_cons, List.length_nil, Nat.reduceAdd, Nat.reduceSub, Array.replicate_succ, Array.replicate_zero, List.push_toArray, List.append_toArray, List.nil_append, List.cons_append]
  gi_wp2
  gi_loopw [3] (fun p wr => ∃ k : Nat, k ≤ t - f ∧ p = .int .u32 ((f : Int) + (k : Int)) ∧ J (List.range' f k) wr) (fun p wr => t - (intOf p).toNat)
  case atStart => exact ⟨0, by omega, by simp, h0⟩
  case round =>
    obtain ⟨k, hk, rfl, hj⟩ := hrel
    have hb := hR _ _ hj
    have c1 := span_cell1 hb
    clear c0 h0
    by_cases hlt : f + k < t
    · obtain ⟨fn, tmps, assign, body, hy, hRR⟩ := hY (List.range' f k) (f + k) wr hj (range'_pre f (t - f) k (by omega))
      simp only [encU, Int.natCast_add] at hy
      gi_wp2
      refine hRR.mono ?_
      rintro e W3 ⟨(⟨rfl, hj3⟩ | ⟨rfl, hjx3⟩), hb3⟩
      · gi_wp2
        go_roundw
        case rel => exact ⟨k + 1, by omega, by simp; omega, by rw [List.range'_concat]; simpa using hj3⟩
        case measure => simp [intOf]; omega
      · gi_wp2
        refine bodyPost_ret (results_none rfl _ _ _) rfl ?_
        exact Gave.part hjx3
    · obtain rfl : k = t - f := by omega
      gi_wp2
      go_end0
      exact Gave.all rfl hj
set_option maxRecDepth 100000 in
set_option maxHeartbeats 1000000 in
theorem behind_gives (ack b : Nat) (ha : ack < 4294967296) :
    Gives Try.prog 108 #[.pointer (some ⟨b, 0, none⟩)] encU (fun pre x => pre ++ [x] <+: List.range' (ack + 1) (behindLen ack)) (fun xs => xs = List.range' (ack + 1) (behindLen ack)) (fun W => Boxed W b 22 (.int .u32 (ack : Int))) := by
  intro l J Jx W X hX hJ hJx hR hY h0
  refine (callsIn_wide (n := 0)).1 (callsIn_of_wp Try.func108 rfl trivial ?_ rfl)
  simp only [Try.ntmps108, List.size_toArray, List.length_cons, List.length_nil, Nat.reduceAdd, Nat.reduceSub, Array.replicate_succ, Array.replicate_zero, List.push_toArray, List.append_toArray, List.nil_append, List.cons_append]
  gi_wp2
  gi_loopw [5] (fun p wr => ∃ k : Nat, k ≤ behindLen ack ∧ p = .int .u32 (k : Int) ∧ J (List.range' (ack + 1) k) wr) (fun p wr => 32 - (intOf p).toNat)
  case atStart => exact ⟨0, by omega, by simp, h0⟩
  case round =>
    obtain ⟨k, hk, rfl, hj⟩ := hrel
    have c0 := (hR _ _ hj).cell
    clear h0
    have hl : behindLen ack ≤ 32 := by unfold behindLen; omega
    by_cases hlt : k < 32
    · by_cases hov : ack + 1 + k < 4294967296
      · have hkl : k < behindLen ack := by unfold behindLen; omega
        obtain ⟨fn, tmps, assign, body, hy, hRR⟩ := hY (List.range' (ack + 1) k) (ack + 1 + k) wr hj (range'_pre (ack + 1) (behindLen ack) k (by omega))
        simp only [encU] at hy; push_cast at hy
        gi_wp2
        refine hRR.mono ?_
        rintro e W3 ⟨(⟨rfl, hj3⟩ | ⟨rfl, hjx3⟩), hb3⟩
        · gi_wp2
          go_roundw
          case rel => exact ⟨k + 1, by omega, by simp, by rw [List.range'_concat]; simpa using hj3⟩
          case measure => simp [intOf]; omega
        · gi_wp2
          refine bodyPost_ret (results_none rfl _ _ _) rfl ?_
          exact Gave.part hjx3
      · have hkl : k = behindLen ack := by unfold behindLen at *; omega
        gi_wp2
        refine bodyPost_ret (results_none rfl _ _ _) rfl ?_
        exact Gave.all rfl (by rw [← hkl]; exact hj)
    · have hkl : k = behindLen ack := by unfold behindLen at *; omega
      gi_wp2
      go_end0
      exact Gave.all rfl (by rw [← hkl]; exact hj)
set_option maxRecDepth 100000 in
set_option maxHeartbeats 1000000 in
theorem those_calls {gf : Nat} {lb : Array Value} {adm : List Nat → Nat → Prop} {fin : List Nat → Prop} {Rd : World → Prop}
    (hgive : Gives Try.prog gf lb encU adm fin Rd) (eg : Enters Try.prog gf) {sf : Nat} {slb : Array Value} (es : Enters Try.prog sf) (q : Nat → Bool) (ba bs l : Nat)
    (J Jx : List Nat → World → Prop) (M : List Nat → Nat → World → Prop) (W : World) (X : List Nat) (hX : ∀ k ∈ X, k < W.heap.size) (hJ : Abide W.heap.size J) (hJx : Abide W.heap.size Jx)
    (hR : ∀ pre W', J pre W' → Rd W' ∧ Boxed W' ba 28 (.func (.func gf) #[] lb) ∧ Boxed W' bs 27 (.func (.func sf) #[] slb))
    (hso : ∀ pre x W', J pre W' → adm pre x → Calls Try.prog sf (#[.int .u32 (x : Int)] ++ slb) W' (fun e W'' => e = .returned (.bool (q x)) ∧ M pre x W'' ∧ BookX X W' W''))
    (hskip : ∀ pre x W', q x = false → adm pre x → M pre x W' → J (pre ++ [x]) W')
    (hY : ∀ pre x W', q x = true → adm pre x → M pre x W' → Yields Try.prog l (encU x) W' (fun e W'' => Answers J Jx (pre ++ [x]) e W'' ∧ BookX X W' W''))
    (h0 : J [] W) :
    Calls Try.prog 107 #[.func (.yield l) #[] #[], .pointer (some ⟨ba, 0, none⟩), .pointer (some ⟨bs, 0, none⟩)] W (Gave fin J Jx) := by
  obtain ⟨_, hba, hbs⟩ := hR _ _ h0
  have ca := (hba.alloc (.cells #[.func (.yield l) #[] #[]] 27)).cell
  have hy0 := Boxed.new W 27 (.func (.yield l) #[] #[])
  refine (callsIn_wide (n := 0)).1 (callsIn_of_wp_marks Try.func107 rfl trivial ?_ rfl)
  simp only [Try.ntmps107, List.size_toArray, List.length_cons, List.length_nil, Nat.reduceAdd, Nat.reduceSub, Array.replicate_succ, Array.replicate_zero, List.push_toArray, List.append_toArray, List.nil_append, List.cons_append]
  gi_wp2
  refine range_outer X rfl eg hgive (by intro _; rfl) (fun k hk => by have := hX k hk; simp; omega)
    (fun pre W' => J pre W' ∧ Boxed W' W.heap.size 27 (.func (.yield l) #[] #[]))
    (fun c pre W' => c = .ret ∧ Jx pre W')
    (fun s A B hs hc => ⟨hJ s A B hs.1 (hc.mono (by simp)), boxed_calm hs.2 hc⟩)
    (fun c s A B hs hc => ⟨hs.1, hJx s A B hs.2 (hc.mono (by simp))⟩)
    (fun pre W' hj => (hR pre W' hj.1).1)
    ⟨hJ _ _ _ h0 (Calm.alloc _ _ _), hy0⟩
    (fun x a' _ => a' = { tmps := #[.func (.yield l) #[] #[], .pointer (some ⟨ba, 0, none⟩), .pointer (some ⟨bs, 0, none⟩), .pointer (some ⟨W.heap.size, 0, none⟩), .int .u32 (x : Int), .func (.func gf) #[] lb, .int .u32 (x : Int), undef, undef, undef, undef, undef, undef, undef, undef, undef], defers := [] })
    (fun _ _ _ _ h _ => h) ?assign ?body ?done ?stop
  case assign =>
    intro l' pre x W' K hi ha hK
    gi_wp2
    exact hK _ _ (BookX.refl _ _) hi rfl
  case body =>
    rintro l' pre x a' W' hl' _ ⟨hj, hyb⟩ ha rfl
    obtain ⟨_, _, hbs'⟩ := hR _ _ hj
    have cs := hbs'.cell
    have hcall := hso pre x W' hj ha
    have es' : ∀ args w, (callFunc sf args).run Try.prog w = .ok (.enter sf args) w := es
    cases hq : q x with
    | false =>
      rw [hq] at hcall
      gi_wp2_with fail
      refine (inR hcall).mono ?_
      rintro e W2 ⟨rfl, hm, hb⟩
      gi_wp2_with fail
      exact ⟨hb, hskip _ _ _ hq ha hm, hb _ _ hyb rfl (fun h => by have := hX _ h; omega)⟩
    | true =>
      rw [hq] at hcall
      gi_wp2_with fail
      refine (inR hcall).mono ?_
      rintro e W2 ⟨rfl, hm, hb⟩
      have hyb2 : Boxed W2 W.heap.size 27 (.func (.yield l) #[] #[]) := hb _ _ hyb rfl (fun h => by have := hX _ h; omega)
      have cy := hyb2.cell
      obtain ⟨fn, tmps, assign, body, hy, hRR⟩ := hY pre x W2 hq ha hm
      gi_wp2_with fail
      refine (roundR hRR).mono ?_
      rintro e W3 ⟨(⟨rfl, hj3⟩ | ⟨rfl, hjx3⟩), hb3⟩
      · gi_wp2
        exact ⟨hb.trans hb3, hj3, hb3 _ _ hyb2 rfl (fun h => by have := hX _ h; omega)⟩
      · gi_wp2
        exact ⟨hb.trans hb3, rfl, hjx3⟩
  case done =>
    rintro D xs W' hD hf ⟨hj, _⟩ hd
    gi_wp2
    refine leaves_marks (B := W.heap.size) (results_none rfl _ _) [D] _ (by simp at hD ⊢; exact ⟨by omega, hd⟩) (by simp) ?_
    intro w' hc
    exact Gave.all hf (hJ _ _ _ hj hc)
  case stop =>
    rintro D c pre W' hD ⟨rfl, hjx⟩ hd
    gi_wp2
    refine leaves_marks (B := W.heap.size) (results_none rfl _ _) [D] _ (by simp at hD ⊢; exact ⟨by omega, hd⟩) (by simp) ?_
    intro w' hc
    exact Gave.part (hJx _ _ _ hjx hc)
end Go.Proofs.Ytbainekfbonbjaa
