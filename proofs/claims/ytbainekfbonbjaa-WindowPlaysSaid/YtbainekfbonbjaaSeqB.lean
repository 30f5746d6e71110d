/- Slices of numbers: what they read as; slices.Equal, first: by contracts. -/
import Derived.Test.YtbainekfbonbjaaBase
import Derived.Test.YtbainekfbonbjaaSeqA
import Derived.OwnWalkIn
import Derived.TacticsInMore
import Derived.LoopNIn
import Derived.LoopIn
import Derived.Deep.QuietTactic
import Derived.BigQuiet
import Derived.Maps.OwnIn
namespace Go.Proofs.Ytbainekfbonbjaa
open Go.RowKit Go.Shelf
set_option linter.unusedVariables false
attribute [local go_sem] Oper.semAt_some

def IsN (k : IntKind) (W : World) (v : Value) (zs : List Nat) : Prop :=
  ∃ p cap, v = .slice p zs.length cap ∧ zs.length ≤ cap ∧ cap ≤ maxLen ∧ (zs ≠ [] → ∃ b off, p = some ⟨b, off, none⟩ ∧ ∀ i, i < zs.length → W.cell? ⟨b, off + i, none⟩ = some (.int k ((zs[i]?.getD 0 : Nat) : Int)))

def numRow (k : IntKind) (zs : List Nat) : List Value := zs.map fun (n : Nat) => .int k (n : Int)
@[simp] theorem numRow_length (k : IntKind) (zs : List Nat) : (numRow k zs).length = zs.length := by simp [numRow]
theorem numRow_snoc (k : IntKind) (zs : List Nat) (x : Nat) : numRow k zs ++ [.int k (x : Int)] = numRow k (zs ++ [x]) := by simp [numRow]

/-- v is a slice of the call's own, in a block from B on, with the elements zs. -/
def OwnU (B : Nat) (W : World) (v : Value) (zs : List Nat) : Prop := W.ownsRow B 22 1 v zs.length (numRow .u32 zs)

theorem ownU_nil (B : Nat) (W : World) : OwnU B W (.slice none 0 0) [] := World.ownsRow_nil _ _ _ _
theorem OwnU.isN {B : Nat} {W : World} {v : Value} {zs : List Nat} (h : OwnU B W v zs) : IsN .u32 W v zs := by
  obtain ⟨h1, h2⟩ := h
  rcases h2 with ⟨rfl, h0⟩ | ⟨g, cap, cur, rfl, hb, hg, hn, hc, hs, ht⟩
  · exact ⟨none, 0, by rw [h0], by omega, by simp [maxLen], fun hne => absurd (List.eq_nil_of_length_eq_zero h0) hne⟩
  · refine ⟨some ⟨g, 0, none⟩, cap, rfl, hn, hc, fun _ => ⟨g, 0, rfl, fun i hi => ?_⟩⟩
    have e : (numRow .u32 zs)[i]? = some (.int .u32 ((zs[i]?.getD 0 : Nat) : Int)) := by simp [numRow, List.getElem?_eq_getElem hi]
    rw [← ht, List.getElem?_take, if_pos (by omega)] at e
    simp [World.cell?, hg]
    simpa using e

theorem info22 : (Try.prog.info? 22).map (fun i => (i.zero, i.size, i.bytes)) = some (some (.int .u32 0), 1, 4) := by kernel_rfl

/-- BEHIND 'out = append(out, ..)' at a variable in a box. -/
theorem appended {W w1 : World} {base B : Nat} {t e : TypeId} {size : Nat} {v v' : Value} {k m : Nat} {xs ys : List Value} {tmp : Obj}
    (hv : Boxed W B t v) (hte : t ≠ e) (ht : heldType t = false) (he : heldType e = false) (hrow : W.ownsRow base e size v k xs)
    (hown' : w1.ownsRow base e size v' m ys) (hgrow : (W.alloc tmp).grownBy w1 v.ownBlock) (hat : v'.ownBlock = v.ownBlock ∨ v'.ownBlock = some (W.alloc tmp).heap.size) :
    Boxed w1 B t v ∧ Boxed (w1.setCell ⟨B, 0, none⟩ v') B t v' ∧ (w1.setCell ⟨B, 0, none⟩ v').ownsRow base e size v' m ys ∧ Step (B :: v.ownBlock.toList) W (w1.setCell ⟨B, 0, none⟩ v') ∧
      (v'.ownBlock = v.ownBlock ∨ ∃ g, v'.ownBlock = some g ∧ W.heap.size ≤ g) := by
  have hv1 : Boxed w1 B t v := (hv.alloc tmp).kept hgrow (hv.not_row hte hrow)
  have hheld : ∀ j o, v.ownBlock = some j → (W.alloc tmp).heap[j]? = some o → isHeld o = false := by
    intro j o ej ho
    rcases (hrow.alloc tmp).2 with ⟨rfl, _⟩ | ⟨g, cap, cur, rfl, _, hgb, _⟩
    · simp [Value.ownBlock] at ej
    · obtain rfl : g = j := by simpa [Value.ownBlock] using ej
      rw [hgb] at ho; cases ho; exact he
  have s1 : Step (B :: v.ownBlock.toList) W w1 := (Step.alloc W tmp).trans' (Step.grown (S := v.ownBlock.toList) hgrow (fun j ej => ⟨.inl (by simp [ej]), fun o ho => hheld j o ej ho⟩)) (fun _ h _ => h) (fun i h _ => List.mem_cons_of_mem _ h)
  refine ⟨hv1, hv1.set v', hown'.kept (grownBy_setCell' w1 B v') (.inr (hv1.not_row hte hown').symm), ?_, ?_⟩
  · refine s1.trans (Step.setCell _ _ _ (.inl (by simp)) ?_)
    intro o ho
    rw [show w1.heap[B]? = _ from hv1] at ho; cases ho; exact ht
  · rcases hat with h | h
    · exact .inl h
    · exact .inr ⟨_, h, by simp⟩

theorem run_equalIn_func_nil (P : Program) (w : World) (d : Nat) (t : TypeId) (f : Fn) (x y : Array Value) (h : ∃ ps rs v, P.underlying t = some (.func ps rs v)) :
    (Op.equalIn (d + 1) t (.func f x y) .nilFunc).run P w = .ok false w := by
  obtain ⟨ps, rs, v, h⟩ := h
  simp [Op.equalIn, run_underlying h]
theorem run_eql_func_nil (P : Program) (w : World) (t : TypeId) (f : Fn) (x y : Array Value) (h : ∃ ps rs v, P.underlying t = some (.func ps rs v)) :
    (binOp .eql t (.func f x y) .nilFunc).run P w = .ok (.bool false) w := by
  simp only [binOp]
  simp [Op.equal, Op.maxDepth, run_equalIn_func_nil P w 9999 t f x y h]

theorem safe_any (f : Nat) (lb : Array Value) (w : World) : Calls Try.prog 18 #[.func (.func f) #[] lb] w fun e w' => e = .returned (.func (.func f) #[] lb) ∧ w = w' := by
  have q28 := fun (w : World) => run_eql_func_nil Try.prog w 28 (.func f) #[] lb ⟨_, _, _, Try.underlying28⟩
  go_enter Try.func18, Try.ntmps18
  go_wp2
  go_ret
  exact ⟨rfl, rfl⟩

theorem eq_of_getD {xs ys : List Nat} (hl : xs.length = ys.length) (h : ∀ j, j < xs.length → xs[j]?.getD 0 = ys[j]?.getD 0) : xs = ys := by
  refine List.ext_getElem hl fun j h1 h2 => ?_
  have := h j h1
  simpa [List.getElem?_eq_getElem h1, List.getElem?_eq_getElem h2] using this

set_option maxRecDepth 100000 in
set_option maxHeartbeats 1000000 in
theorem equal_any (v1 v2 : Value) (xs ys : List Nat) (w : World) (h1 : IsN .u32 w v1 xs) (h2 : IsN .u32 w v2 ys) :
    Calls Try.prog 20 #[v1, v2] w fun e w' => e = .returned (.bool (decide (xs = ys))) ∧ ∃ n, w.drewN n = w' := by
  obtain ⟨p, c1, rfl, hl1, hm1, hc1⟩ := h1
  obtain ⟨q, c2, rfl, hl2, hm2, hc2⟩ := h2
  unfold maxLen at hm1 hm2
  by_cases hlen : xs.length = ys.length
  · have hne : ((xs.length : Int) != (ys.length : Int)) = false := by simp [hlen]
    have hfin : ∀ k, k < xs.length → xs[k]?.getD 0 ≠ ys[k]?.getD 0 → xs ≠ ys := by
      intro k hk hh e; subst e; exact hh rfl
    have HL := Lib.hid hlen
    have HC1 := Lib.hid hc1
    have HC2 := Lib.hid hc2
    clear hlen hc1 hc2
    go_enter Try.func20, Try.ntmps20
    go_wp2
    go_loopw [5, 13] (fun _ i wr => ∃ k n : Nat, k ≤ xs.length ∧ i = .int .i64 k ∧ w.drewN n = wr ∧ Hid (∀ j, j < k → xs[j]?.getD 0 = ys[j]?.getD 0)) (fun _ i wr => xs.length - (intOf i).toNat)
    case atStart => exact ⟨0, 0, by omega, rfl, rfl, by intro j hj; omega⟩
    case round =>
      obtain ⟨k, n, hk, rfl, rfl, hj⟩ := hrel
      by_cases hlt : k < xs.length
      · obtain ⟨b1, o1, rfl, hc1⟩ := HC1.out (by intro h; subst h; simp at hlt)
        have hlt2 : k < ys.length := by rw [← HL.out]; exact hlt
        obtain ⟨b2, o2, rfl, hc2⟩ := HC2.out (by intro h; subst h; simp at hlt2)
        have e1 := hc1 k hlt
        have e2 := hc2 k hlt2
        clear hc1 hc2
        have i1 : (k : Int) < (xs.length : Int) := by omega
        have i2 : (k : Int) < (ys.length : Int) := by omega
        have hfk := hfin k hlt
        clear hfin
        generalize hx : xs[k]?.getD 0 = x at *
        generalize hy : ys[k]?.getD 0 = y at *
        have HX := Lib.hid hx
        have HY := Lib.hid hy
        clear hx hy
        by_cases heq : x = y
        · have hb : ((x : Int) != (y : Int)) = false := by simp [heq]
          have HEQ := Lib.hid heq
          clear heq hfk
          go_wp2
          go_quiet (fail)
          go_wp2
          exact ⟨⟨k + 1, _, by omega, by go_num, rfl, fun j hj' => by
            by_cases e : j < k
            · exact hj.out j e
            · obtain rfl : j = k := by omega
              rw [HX.out, HY.out]; exact HEQ.out⟩, by simp [intOf]; omega⟩
        · have hb : ((x : Int) != (y : Int)) = true := by simp; omega
          have hd : decide (xs = ys) = false := by simp; exact hfk heq
          have HD := Lib.hid hd
          clear heq hfk hd
          go_wp2
          go_quiet (fail)
          go_wp2
          go_ret
          exact ⟨by rw [HD.out]; rfl, _, (World.drewN_drewN _ _ _).symm⟩
      · have hd : decide (xs = ys) = true := by simp; exact eq_of_getD HL.out (fun j hj' => hj.out j (by omega))
        have HD := Lib.hid hd
        clear hd hfin
        go_wp2
        go_ret
        exact ⟨by rw [HD.out]; rfl, _, rfl⟩
  · have hne : ((xs.length : Int) != (ys.length : Int)) = true := by simp; omega
    have hd : decide (xs = ys) = false := by simp; intro h; exact hlen (by rw [h])
    have HD := Lib.hid hd
    clear hd
    go_enter Try.func20, Try.ntmps20
    go_wp2
    go_ret
    exact ⟨by rw [HD.out]; rfl, 0, rfl⟩

set_option maxRecDepth 100000 in
set_option maxHeartbeats 1000000 in
theorem first_any {gf : Nat} {lb : Array Value} {xs : List Nat} {Rd : World → Prop} (hgive : Gives Try.prog gf lb encU (fun pre x => pre ++ [x] <+: xs) (fun ys => ys = xs) Rd) (eg : Enters Try.prog gf)
    (m : Nat) (hm : m ≤ 1000) (w : World) (hRd : ∀ W', Step [] w W' → Rd W') :
    Calls Try.prog 26 #[.func (.func gf) #[] lb, .int .i64 (m : Int)] w fun e W' => ∃ v, e = .returned v ∧ OwnU w.heap.size W' v (xs.take m) ∧ Step [] w W' := by
  obtain ⟨i0, hi, hz0, hz1, hz2⟩ := info_parts info22
  refine (callsIn_wide (n := 0)).1 (callsIn_of_wp_marks Try.func26 rfl trivial ?_ rfl)
  simp only [Try.ntmps26, List.size_toArray, List.length_cons, List.length_nil, Nat.reduceAdd, Nat.reduceSub, Array.replicate_succ, Array.replicate_zero, List.push_toArray, List.append_toArray, List.nil_append, List.cons_append]
  have b3 := Boxed.new w 3 (.int .i64 (m : Int))
  have b5 := Boxed.new (w.alloc (.cells #[.int .i64 (m : Int)] 3)) 26 (.slice none 0 0)
  rw [World.size_alloc] at b5
  have s0 : Step [] w ((w.alloc (.cells #[.int .i64 (m : Int)] 3)).alloc (.cells #[.slice none 0 0] 26)) := (Step.alloc _ _).trans (Step.alloc _ _)
  have B3 := Lib.hid (b3.alloc (.cells #[.slice none 0 0] 26))
  have B5 := Lib.hid b5
  clear b3 b5
  gi_wp2_with (gi_at_call 18; refine (inW (safe_any _ _ _)).mono ?_; rintro e w' ⟨rfl, rfl⟩)
  generalize hw1 : (w.alloc (.cells #[.int .i64 (m : Int)] 3)).alloc (.cells #[.slice none 0 0] 26) = w1 at *
  have hz : w1.heap.size = w.heap.size + 2 := by rw [← hw1]; simp
  clear hw1
  refine range_outer [] rfl eg hgive (by intro _; rfl) (by simp)
    (fun pre W => (∃ v, Boxed W (w.heap.size + 1) 26 v ∧ OwnU w.heap.size W v pre) ∧ pre.length ≤ m ∧ Step [w.heap.size, w.heap.size + 1] w W ∧ Boxed W w.heap.size 3 (.int .i64 (m : Int)) ∧ w1.heap.size ≤ W.heap.size)
    (fun c pre W => c = .exit 0 ∧ (∃ v, Boxed W (w.heap.size + 1) 26 v ∧ OwnU w.heap.size W v (xs.take m)) ∧ Step [w.heap.size, w.heap.size + 1] w W)
    ?hI ?hIx ?hRd ?h0
    (fun x a' _ => a' = { tmps := #[.func (.func gf) #[] lb, .int .i64 (m : Int), undef, .pointer (some ⟨w.heap.size, 0, none⟩), .slice none 0 0, .pointer (some ⟨w.heap.size + 1, 0, none⟩), .int .u32 (x : Int), .func (.func gf) #[] lb, .func (.func gf) #[] lb, .int .u32 (x : Int), undef, undef, undef, undef, undef, undef, undef, undef, undef], defers := [] })
    (fun _ _ _ _ h _ => h) ?assign ?body ?done ?stop
  case hI =>
    rintro s A B ⟨⟨v, hb, hv⟩, hs, h1, h2, h3⟩ hc
    exact ⟨⟨v, boxed_calm hb hc, row_calm hv hc⟩, hs, h1.calm hc (by omega), boxed_calm h2 hc, Nat.le_trans h3 hc.size⟩
  case hIx =>
    rintro c s A B ⟨rfl, ⟨v, hb, hv⟩, h1⟩ hc
    exact ⟨rfl, ⟨v, boxed_calm hb hc, row_calm hv hc⟩, h1.calm hc (by omega)⟩
  case hRd =>
    rintro pre W ⟨_, _, h1, _⟩
    exact hRd _ (h1.mono (fun i hi hl => by simp at hi; omega))
  case h0 => exact ⟨⟨_, B5.out, ownU_nil _ _⟩, by simp, s0.nil_mono, B3.out, Nat.le_refl _⟩
  case assign =>
    intro l pre x W K hi' ha hK
    gi_wp2
    exact hK _ _ (BookX.refl _ _) hi' rfl
  case body =>
    rintro l pre x a' W hl _ ⟨⟨v, hb, hv⟩, hlen, hst, h3, hsz⟩ ha rfl
    have hp : pre = xs.take pre.length := by
      obtain ⟨t, ht⟩ := ha; rw [← ht]; simp
    have hb' := hb.cell
    have h3' := h3.cell
    obtain ⟨ao, cap, hve⟩ : ∃ ao cap, v = .slice ao pre.length cap := by
      rcases hv.2 with ⟨rfl, h0⟩ | ⟨g, cap, _, rfl, _⟩
      · exact ⟨none, 0, by rw [h0]⟩
      · exact ⟨_, _, rfl⟩
    subst hve
    have HP := Lib.hid hp
    have HB := Lib.hid hb
    have HV := Lib.hid hv
    have HS := Lib.hid hst
    have H3 := Lib.hid h3
    clear hp hb hv hst h3 ha hgive hRd s0 B3 B5
    by_cases hge : m ≤ pre.length
    · gi_wp2
      refine ⟨BookX.refl _ _, rfl, ⟨_, HB.out, ?_⟩, HS.out⟩
      have e : xs.take m = pre := by
        have : pre.length = m := by omega
        rw [← this]; exact HP.out.symm
      rw [e]; exact HV.out
    · gi_wp2_with (gi_at_builtin; refine wpListIn_append_own_at _ rfl _ _ 26 rfl w.heap.size 22 i0 (.int .u32 0) 1 4 Try.underlying26 hi hz0 hz1 hz2 rfl (by decide) _ _ _ rfl (HV.out.alloc _) ⟨W.heap.size, 0, none⟩ 1 1 [.int .u32 (x : Int)] rfl rfl (cell_one_new _ _ _) (by simp [Value.oneCell']) (by unfold maxLen; omega) (by omega) (by simp; omega) ?_; intro v' w2 hown' hgrow _ hat; obtain ⟨g', cap', rfl⟩ := ownsRow_succ hown'; obtain ⟨hv1, hv2, hr2, hs2, hat2⟩ := appended HB.out (by decide) rfl rfl HV.out hown' hgrow hat; have hc1 := hv1.cell; have hf1 := hv1.frozen)
      refine ⟨hs2.book, ⟨_, hv2, ?_⟩, by simp; omega, ?_, ?_, by have := hs2.size; omega⟩
      · rw [numRow_snoc] at hr2; simpa [OwnU] using hr2
      · refine HS.out.trans' hs2 (fun _ h _ => h) (fun i h hlt => ?_)
        rcases List.mem_cons.1 h with rfl | h
        · simp
        · have := HV.out.lt i (by simpa using h); omega
      · exact boxed_step H3.out hs2 (by
          intro h
          rcases List.mem_cons.1 h with h | h
          · omega
          · exact (H3.out.not_row (by decide) HV.out) (by simp at h; exact h.symm))
  case done =>
    rintro D ys W hD rfl ⟨⟨v, hb, hv⟩, hlen, hst, _, _⟩ hd
    have hb' := hb.cell
    gi_wp2
    refine leaves_marks (B := w.heap.size) (results_tmp rfl _ _) [D] _ (by simp; exact ⟨by omega, hd⟩) (by simp) ?_
    intro w' hc
    refine ⟨_, rfl, row_calm (by rw [List.take_of_length_le hlen]; exact hv) hc, (hst.mono (fun i hi hl => by simp at hi; omega)).calm hc (by omega)⟩
  case stop =>
    rintro D c pre W hD ⟨rfl, ⟨v, hb, hv⟩, hst⟩ hd
    have hb' := hb.cell
    gi_wp2
    refine leaves_marks (B := w.heap.size) (results_tmp rfl _ _) [D] _ (by simp; exact ⟨by omega, hd⟩) (by simp) ?_
    intro w' hc
    exact ⟨_, rfl, row_calm hv hc, (hst.mono (fun i hi hl => by simp at hi; omega)).calm hc (by omega)⟩
end Go.Proofs.Ytbainekfbonbjaa
