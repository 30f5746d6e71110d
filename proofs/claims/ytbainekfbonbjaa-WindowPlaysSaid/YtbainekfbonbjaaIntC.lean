/- those, Mask: the function that is asked may have its receiver ahead (a method value). Turned from SeqA, SeqC, SeqF. No statement is proved here; nothing is assumed. -/
import Derived.Test.YtbainekfbonbjaaSeqF
namespace Go.Proofs.Ytbainekfbonbjaa
open Go.RowKit Go.Shelf
set_option linter.unusedVariables false
set_option linter.unusedSimpArgs false
attribute [local go_sem] Oper.semAt_some

/-- A function value (sf, with fi ahead of its arguments and slb behind them) that asks of a number. -/
def AsksF (sf : Nat) (fi slb : Array Value) (q : Nat → Bool) (D : Nat → Prop) (Rs : World → Prop) : Prop :=
  ∀ (x : Nat) (W : World), D x → Rs W → Calls Try.prog sf (fi ++ #[.int .u32 (x : Int)] ++ slb) W fun e W' => e = .returned (.bool (q x)) ∧ Step [] W W'
set_option maxRecDepth 100000 in
set_option maxHeartbeats 1000000 in
theorem thoseF_calls {gf : Nat} {lb : Array Value} {adm : List Nat → Nat → Prop} {fin : List Nat → Prop} {Rd : World → Prop}
    (hgive : Gives Try.prog gf lb encU adm fin Rd) (eg : Enters Try.prog gf) {sf : Nat} {fi slb : Array Value} (es : Enters Try.prog sf) (q : Nat → Bool) (ba bs l : Nat)
    (J Jx : List Nat → World → Prop) (M : List Nat → Nat → World → Prop) (W : World) (X : List Nat) (hX : ∀ k ∈ X, k < W.heap.size) (hJ : Abide W.heap.size J) (hJx : Abide W.heap.size Jx)
    (hR : ∀ pre W', J pre W' → Rd W' ∧ Boxed W' ba 28 (.func (.func gf) #[] lb) ∧ Boxed W' bs 27 (.func (.func sf) fi slb))
    (hso : ∀ pre x W', J pre W' → adm pre x → Calls Try.prog sf (fi ++ #[.int .u32 (x : Int)] ++ slb) W' (fun e W'' => e = .returned (.bool (q x)) ∧ M pre x W'' ∧ BookX X W' W''))
    (hskip : ∀ pre x W', q x = false → adm pre x → M pre x W' → J (pre ++ [x]) W')
    (hY : ∀ pre x W', q x = true → adm pre x → M pre x W' → Yields Try.prog l (encU x) W' (fun e W'' => Answers J Jx (pre ++ [x]) e W'' ∧ BookX X W' W''))
    (h0 : J [] W) :
    Calls Try.prog 107 #[.func (.yield l) #[] #[], .pointer (some ⟨ba, 0, none⟩), .pointer (some ⟨bs, 0, none⟩)] W (Gave fin J Jx) := by
  obtain ⟨_, hba, hbs⟩ := hR _ _ h0
  have ca := (hba.alloc (.cells #[.func (.yield l) #[] #[]] 27)).cell
  have hy0 := Boxed.new W 27 (.func (.yield l) #[] #[])
  refine (callsIn_wide (n := 0)).1 (callsIn_of_wp_marks Try.func107 rfl trivial ?_ rfl)
  simp only [Try.ntmps107, List.size_toArray, List.length_cons, List.length_nil, Nat.reduceAdd, Nat.reduceSub, Array.replicate_succ, Array.replicate_zero, List.push_toArray, List.append_toArray, List.nil_append, List.cons_append]
  gi_wp2
  refine range_outer X rfl eg hgive (by intro _; rfl) (fun k hk => by have := hX k hk; simp; omega)
    (fun pre W' => J pre W' ∧ Boxed W' W.heap.size 27 (.func (.yield l) #[] #[]))
    (fun c pre W' => c = .ret ∧ Jx pre W')
    (fun s A B hs hc => ⟨hJ s A B hs.1 (hc.mono (by simp)), boxed_calm hs.2 hc⟩)
    (fun c s A B hs hc => ⟨hs.1, hJx s A B hs.2 (hc.mono (by simp))⟩)
    (fun pre W' hj => (hR pre W' hj.1).1)
    ⟨hJ _ _ _ h0 (Calm.alloc _ _ _), hy0⟩
    (fun x a' _ => a' = { tmps := #[.func (.yield l) #[] #[], .pointer (some ⟨ba, 0, none⟩), .pointer (some ⟨bs, 0, none⟩), .pointer (some ⟨W.heap.size, 0, none⟩), .int .u32 (x : Int), .func (.func gf) #[] lb, .int .u32 (x : Int), undef, undef, undef, undef, undef, undef, undef, undef, undef], defers := [] })
    (fun _ _ _ _ h _ => h) ?assign ?body ?done ?stop
  case assign =>
    intro l' pre x W' K hi ha hK
    gi_wp2
    exact hK _ _ (BookX.refl _ _) hi rfl
  case body =>
    rintro l' pre x a' W' hl' _ ⟨hj, hyb⟩ ha rfl
    obtain ⟨_, _, hbs'⟩ := hR _ _ hj
    have cs := hbs'.cell
    have hcall := hso pre x W' hj ha
    have es' : ∀ args w, (callFunc sf args).run Try.prog w = .ok (.enter sf args) w := es
    cases hq : q x with
    | false =>
      rw [hq] at hcall
      gi_wp2_with fail
      refine (inR hcall).mono ?_
      rintro e W2 ⟨rfl, hm, hb⟩
      gi_wp2_with fail
      exact ⟨hb, hskip _ _ _ hq ha hm, hb _ _ hyb rfl (fun h => by have := hX _ h; omega)⟩
    | true =>
      rw [hq] at hcall
      gi_wp2_with fail
      refine (inR hcall).mono ?_
      rintro e W2 ⟨rfl, hm, hb⟩
      have hyb2 : Boxed W2 W.heap.size 27 (.func (.yield l) #[] #[]) := hb _ _ hyb rfl (fun h => by have := hX _ h; omega)
      have cy := hyb2.cell
      obtain ⟨fn, tmps, assign, body, hy, hRR⟩ := hY pre x W2 hq ha hm
      gi_wp2_with fail
      refine (roundR hRR).mono ?_
      rintro e W3 ⟨(⟨rfl, hj3⟩ | ⟨rfl, hjx3⟩), hb3⟩
      · gi_wp2
        exact ⟨hb.trans hb3, hj3, hb3 _ _ hyb2 rfl (fun h => by have := hX _ h; omega)⟩
      · gi_wp2
        exact ⟨hb.trans hb3, rfl, hjx3⟩
  case done =>
    rintro D xs W' hD hf ⟨hj, _⟩ hd
    gi_wp2
    refine leaves_marks (B := W.heap.size) (results_none rfl _ _) [D] _ (by simp at hD ⊢; exact ⟨by omega, hd⟩) (by simp) ?_
    intro w' hc
    exact Gave.all hf (hJ _ _ _ hj hc)
  case stop =>
    rintro D c pre W' hD ⟨rfl, hjx⟩ hd
    gi_wp2
    refine leaves_marks (B := W.heap.size) (results_none rfl _ _) [D] _ (by simp at hD ⊢; exact ⟨by omega, hd⟩) (by simp) ?_
    intro w' hc
    exact Gave.part (hJx _ _ _ hjx hc)

theorem thoseF_gives {gf : Nat} {lb : Array Value} {xs : List Nat} {Rd : World → Prop} {D : Nat → Prop} (hxs : ∀ x ∈ xs, D x)
    (hgive : Gives Try.prog gf lb encU (fun pre x => pre ++ [x] <+: xs) (fun ys => ys = xs) Rd) (eg : Enters Try.prog gf) {sf : Nat} {fi slb : Array Value} (es : Enters Try.prog sf) (q : Nat → Bool) {Rs : World → Prop} (hq : AsksF sf fi slb q D Rs) (ba bs : Nat) :
    Gives Try.prog 107 #[.pointer (some ⟨ba, 0, none⟩), .pointer (some ⟨bs, 0, none⟩)] encU (fun pre x => pre ++ [x] <+: xs.filter q) (fun ys => ys = xs.filter q)
      (fun W => Rd W ∧ (Boxed W ba 28 (.func (.func gf) #[] lb) ∧ Boxed W bs 27 (.func (.func sf) fi slb)) ∧ Rs W) := by
  intro l J Jx W X hX hJ hJx hR hY h0
  refine (thoseF_calls hgive eg es q ba bs l (fun pre => J (pre.filter q)) (fun pre => Jx (pre.filter q)) (fun pre _ => J (pre.filter q)) W X hX (fun s A B h hc => hJ _ A B h hc) (fun s A B h hc => hJx _ A B h hc)
    (fun pre W' h => ⟨(hR _ _ h).1, (hR _ _ h).2.1⟩) ?_ ?_ ?_ h0).mono ?_
  · intro pre x W' hj ha
    have hx := hxs x (ha.subset (by simp))
    refine (hq x W' hx (hR _ _ hj).2.2).mono ?_
    rintro e W'' ⟨rfl, hs⟩
    exact ⟨rfl, hJ _ _ _ hj hs.calm0, hs.book.nil⟩
  · intro pre x W' hq' ha hj
    simpa [hq'] using hj
  · intro pre x W' hq' ha hj
    have hp := filter_prefix q ha
    simp [hq'] at hp
    have := hY (pre.filter q) x W' hj hp
    refine YieldAt.mono this ?_
    rintro e W'' ⟨h1, h2⟩
    refine ⟨?_, h2⟩
    rcases h1 with ⟨rfl, h⟩ | ⟨rfl, h⟩
    · exact .inl ⟨rfl, by simpa [hq'] using h⟩
    · exact .inr ⟨rfl, by simpa [hq'] using h⟩
  · rintro e W' ⟨hv, (⟨ys, rfl, hj⟩ | ⟨pre, hj⟩)⟩
    · exact ⟨hv, .inl ⟨_, rfl, hj⟩⟩
    · exact ⟨hv, .inr ⟨_, hj⟩⟩

/-- Is a number told by a mask? -/

theorem thoseF_any (g s : FuncId) (lb fi slb : Array Value) (w : World) : Calls Try.prog 81 #[.func (.func g) #[] lb, .func (.func s) fi slb] w fun e w' =>
    e = .returned (.func (.func 107) #[] #[.pointer (some ⟨w.heap.size, 0, none⟩), .pointer (some ⟨w.heap.size + 1, 0, none⟩)]) ∧ (w.alloc (.cells #[.func (.func g) #[] lb] 28)).alloc (.cells #[.func (.func s) fi slb] 27) = w' := by
  go_enter Try.func81, Try.ntmps81
  go_wp2
  go_ret
  exact ⟨rfl, rfl⟩


set_option maxRecDepth 100000 in
set_option maxHeartbeats 2000000 in
theorem maskF_any (ack : Nat) (ha : ack < 4294967296) {sf : Nat} {fi slb : Array Value} (es : Enters Try.prog sf) (q : Nat → Bool) {Rs : World → Prop} (hq : AsksF sf fi slb q (Behind ack) Rs) (w : World) (hRs : ∀ W', Step [] w W' → Rs W') :
    Calls Try.prog 31 #[.int .u32 (ack : Int), .func (.func sf) fi slb] w fun e W' => e = .returned (.int .u32 (maskOf ack q : Int)) ∧ Step [] w W' := by
  refine (callsIn_wide (n := 0)).1 (callsIn_of_wp_marks Try.func31 rfl trivial ?_ rfl)
  simp only [Try.ntmps31, List.size_toArray, List.length_cons, List.length_nil, Nat.reduceAdd, Nat.reduceSub, Array.replicate_succ, Array.replicate_zero, List.push_toArray, List.append_toArray, List.nil_append, List.cons_append]
  gi_wp2_with (first | (gi_at_call 88; refine (inW (behind_any _ _)).mono ?_; rintro e w' ⟨rfl, rfl⟩) | (gi_at_call 81; refine (inW (thoseF_any _ _ _ _ _ _)).mono ?_; rintro e w' ⟨rfl, rfl⟩))
  generalize hw1 : ((((w.alloc (.cells #[.int .u32 (ack : Int)] 22)).alloc (.cells #[.int .u32 0] 22)).alloc (.cells #[.int .u32 (ack : Int)] 22)).alloc (.cells #[.func (.func 108) #[] #[.pointer (some ⟨w.heap.size + 1 + 1, 0, none⟩)]] 28)).alloc (.cells #[.func (.func sf) fi slb] 27) = w1
  have hz : w1.heap.size = w.heap.size + 5 := by rw [← hw1]; simp
  have s0 : Step [] w w1 := by rw [← hw1]; exact ((((Step.alloc _ _).trans (Step.alloc _ _)).trans (Step.alloc _ _)).trans (Step.alloc _ _)).trans (Step.alloc _ _)
  have b0 : Boxed w1 w.heap.size 22 (.int .u32 (ack : Int)) := by rw [← hw1]; simp only [Boxed, heap_alloc_get, World.size_alloc]; repeat first | rfl | rw [if_pos (by omega)] | rw [if_neg (by omega)] | rw [if_pos trivial]
  have b1 : Boxed w1 (w.heap.size + 1) 22 (.int .u32 0) := by rw [← hw1]; simp only [Boxed, heap_alloc_get, World.size_alloc]; repeat first | rfl | rw [if_pos (by omega)] | rw [if_neg (by omega)] | rw [if_pos trivial]
  have b2 : Boxed w1 (w.heap.size + 1 + 1) 22 (.int .u32 (ack : Int)) := by rw [← hw1]; simp only [Boxed, heap_alloc_get, World.size_alloc]; repeat first | rfl | rw [if_pos (by omega)] | rw [if_neg (by omega)] | rw [if_pos trivial]
  have b3 : Boxed w1 (w.heap.size + 1 + 1 + 1) 28 (.func (.func 108) #[] #[.pointer (some ⟨w.heap.size + 1 + 1, 0, none⟩)]) := by rw [← hw1]; simp only [Boxed, heap_alloc_get, World.size_alloc]; repeat first | rfl | rw [if_pos (by omega)] | rw [if_neg (by omega)] | rw [if_pos trivial]
  have b4 : Boxed w1 (w.heap.size + 1 + 1 + 1 + 1) 27 (.func (.func sf) fi slb) := by rw [← hw1]; simp only [Boxed, heap_alloc_get, World.size_alloc]; repeat first | rfl | rw [if_pos (by omega)] | rw [if_neg (by omega)] | rw [if_pos trivial]
  clear hw1
  have hg := thoseF_gives (fun x h => behind_mem ha h) (behind_gives ack (w.heap.size + 1 + 1) ha) enters108 es q hq (w.heap.size + 1 + 1 + 1) (w.heap.size + 1 + 1 + 1 + 1)
  refine range_outer1 (v := fun x : Nat => .int .u32 (x : Int)) [] rfl enters107 hg (by simp) rfl rfl
    (fun pre W => Boxed W (w.heap.size + 1) 22 (.int .u32 (bitsSum ack pre : Int)) ∧ Step [w.heap.size + 1] w1 W)
    (fun _ _ _ => False) ?hI (fun _ => abide_false _) ?hRd ?h0 ?body ?done ?stop
  case hI => exact fun s A B h hc => ⟨boxed_calm h.1 hc, h.2.calm hc (Nat.le_refl _)⟩
  case hRd =>
    rintro pre W ⟨_, hs⟩
    exact ⟨boxed_step b2 hs (fun h => by simp at h <;> omega), ⟨boxed_step b3 hs (fun h => by simp at h <;> omega), boxed_step b4 hs (fun h => by simp at h <;> omega)⟩, hRs _ (s0.trans' hs (fun _ h _ => h) (fun i hi hl => by simp at hi; omega))⟩
  case h0 => exact ⟨b1, Step.refl _ _⟩
  case body =>
    rintro l pre x W hl _ ⟨hb, hs⟩ hadm
    obtain ⟨h1, h2, h3, h4⟩ := next_behind ha hadm
    have c0 := (boxed_step b0 hs (by simp)).cell
    have c1 := hb.cell
    have f1 := hb.frozen
    simp [frame1]
    have he : bits BinOp.or IntKind.u32 (bitsSum ack pre : Int) (2 ^ (x - ack - 1) % 4294967296) = (bitsSum ack (pre ++ [x]) : Int) := by
      have hp : 2 ^ (x - ack - 1) < 4294967296 := Nat.lt_of_lt_of_le (Nat.pow_lt_pow_right (by omega) (show x - ack - 1 < 32 by omega)) (by omega)
      have e1 : ((2 : Int) ^ (x - ack - 1) % 4294967296) = ((2 ^ (x - ack - 1) : Nat) : Int) := by
        have : ((2 : Int) ^ (x - ack - 1)) = ((2 ^ (x - ack - 1) : Nat) : Int) := by push_cast; rfl
        rw [this]; omega
      rw [e1, u32_or_nat _ _ (by omega) hp, or_bit h4, bitsSum_snoc]
    have HE := Lib.hid he
    clear he hg hq hRs
    gi_wp2
    rw [HE.out]
    refine ⟨(Step.setCell (S := [w.heap.size + 1]) _ _ _ (.inl (by simp)) (fun o ho => by rw [show W.heap[w.heap.size + 1]? = _ from hb] at ho; cases ho; rfl)).book, hb.set _, hs.trans (Step.setCell _ _ _ (.inl (by simp)) (fun o ho => by rw [show W.heap[w.heap.size + 1]? = _ from hb] at ho; cases ho; rfl))⟩
  case done =>
    rintro D xs W hD rfl ⟨hb, hs⟩ hd
    have c1 := hb.cell
    gi_wp2
    refine leaves_marks (B := w.heap.size) (results_tmp rfl _ _) [D] _ (by simp; exact ⟨by omega, hd⟩) (by simp) ?_
    intro w' hc
    exact ⟨rfl, (s0.trans' hs (fun _ h _ => h) (fun i hi hl => by simp at hi; omega)).calm hc (Nat.le_refl _)⟩
  case stop =>
    rintro D c pre W hD h hd
    exact h.elim


end Go.Proofs.Ytbainekfbonbjaa
