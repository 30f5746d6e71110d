/- IntakeTakes: the reference's Take, where it takes. No statement is proved here; nothing is assumed. -/
import Derived.Test.YtbainekfbonbjaaTakE
namespace Go.Proofs.Ytbainekfbonbjaa
open Go.RowKit Go.Shelf Go.Maps
set_option linter.unusedVariables false
set_option linter.unusedSimpArgs false
attribute [local go_sem] Oper.semAt_some

theorem info148 : (Try.prog.info? 148).map (fun i => (i.zero, i.size, i.bytes)) = some (some (.agg #[.int .u32 0, .slice none 0 0]), 2, 32) := by kernel_rfl
/-- Two cells of a new block. -/
theorem cell_two_new (w : World) (x y : Value) (t : TypeId) : ∀ j u, [x, y][j]? = some u → (w.alloc (.cells #[x, y] t)).cell? ((⟨w.heap.size, 0, none⟩ : Addr).add j) = some u := by
  intro j u hj
  match j, hj with
  | 0, hj => simp at hj; subst hj; simp [Addr.add]
  | 1, hj => simp at hj; subst hj; simp [Addr.add]
theorem appended_step {W w1 : World} {base : Nat} {e : TypeId} {size : Nat} {v : Value} {k : Nat} {xs : List Value} {tmp : Obj} (he : heldType e = false)
    (hrow : W.ownsRow base e size v k xs) (hgrow : (W.alloc tmp).grownBy w1 v.ownBlock) : Step v.ownBlock.toList W w1 :=
  (Step.alloc W tmp).trans (Step.grown hgrow (fun j ej => ⟨.inl (by simp [ej]), fun o ho => by
    rcases (hrow.alloc tmp).2 with ⟨rfl, _⟩ | ⟨g, cap, cur, rfl, _, hgb, _⟩
    · simp [Value.ownBlock] at ej
    · obtain rfl : g = j := by simpa [Value.ownBlock] using ej
      rw [hgb] at ho; cases ho; exact he⟩))
theorem wpList_append_run {P : Program} {w w' : World} {v' : Value} {ops : Array Oper} {rest : List Oper} {o : Oper} {a : Act} {Q : Exit → Act → World → Prop} (hgd : o.guard = none) (s x : Operand) (t : TypeId)
    (ho : o.op = .call { callee := .builtin .append, args := #[s, x], argTypes := #[t, t] }) (vs vx : Value) (hs : a.eval s = vs) (hx : a.eval x = vx)
    (hr : (Builtin.append_ #[t, t] o.type #[vs, vx]).run P w = .ok v' w') (h : wpList P ops Q rest (a.put o.dst v') w') : wpList P ops Q (o :: rest) a w := by
  refine wpList_plain hgd fun K hK => ?_
  unfold Oper.wp execOp
  simp only [ho, resolve, invoke, builtin, Sem.run_bind, Sem.run_pure, Result.andThen_ok, List.map_toArray, List.map_cons, List.map_nil, hs, hx, hr]
  exact hK _ _ h
theorem RefM.frz {B : Nat} {W : World} {br F g n cap : Nat} {K : Ents} {f : Kept7} (h : RefM B W br F (.slice (some ⟨g, 0, none⟩) n cap) K f) (i : Nat) : W.frozen? ⟨g, i, none⟩ = false := by
  rcases h.row.2 with ⟨h1, _⟩ | ⟨g', cap', cur, h1, _, hg', _⟩
  · cases h1
  · cases h1; exact cells_frozen hg'
theorem row71 {W : World} {B n : Nat} {v : Value} {xs : List Value} (h : W.ownsRow B 71 1 v n xs) : ∀ i ∈ v.ownBlock.toList, ∃ cur, W.heap[i]? = some (.cells cur 71 (0, 0)) := by
  intro i hi
  rcases h.2 with ⟨h1, _⟩ | ⟨g', cap', cur, h1, _, hg', _⟩
  · rw [h1] at hi; simp [Value.ownBlock] at hi
  · rw [h1] at hi; simp [Value.ownBlock] at hi; subst hi; exact ⟨cur, hg'⟩
/-- What the rounds of the reference's Take keep. -/
def DrAt (w0 : World) (B br F m : Nat) (f : Kept7) (K0 : Ents) (j : Nat) (o : Value) (W : World) : Prop := ∃ sv K vals, RefM B W br (F + j) sv K (behind7 F f j) ∧ K.length + j = m ∧ W.ownsRow w0.heap.size 71 1 o j vals ∧
  (∀ (i : Nat) u, vals[i]? = some u → ∃ p, f (F + i) = some p ∧ PayAt B W u p) ∧ StepR B w0 W ∧ (∀ q ∈ K, q ∈ K0) ∧ (∀ u ∈ vals, ∃ k, (k, u) ∈ K0)

theorem RefM.floor {B : Nat} {W : World} {br F : Nat} {sv : Value} {K : Ents} {f : Kept7} (h : RefM B W br F sv K f) : floorAt W br = F := by
  unfold floorAt
  rw [h.cells.1]
  exact Int.toNat_natCast _
theorem DrAt.next {w wr w4 w5 : World} {B br F m : Nat} {f : Kept7} {K0 K2 : Ents} {j l2 l3 cap2 g a kl : Nat} {o o' u z : Value} {vals : List Value}
    (hR : RefM B wr br (F + j) (.slice (some ⟨g, 0, none⟩) l2 cap2) K2 (behind7 F f j)) (hl : l2 = K2.length) (hl3 : l2 = l3 + 1) (hm : K2.length + j = m) (hrow : wr.ownsRow w.heap.size 71 1 o j vals)
    (hpay : ∀ (i : Nat) u, vals[i]? = some u → ∃ p, f (F + i) = some p ∧ PayAt B wr u p) (hB : B ≤ w.heap.size) (hst : StepR B w wr) (hsub : ∀ q ∈ K2, q ∈ K0) (hsv : ∀ u ∈ vals, ∃ k, (k, u) ∈ K0)
    (ha : K2[a]? = some (F + j, u)) (hz : K2[l3]? = some (kl, z)) (hrow4 : w4.ownsRow w.heap.size 71 1 o' (j + 1) (vals ++ [u])) (hs4 : Step o.ownBlock.toList wr w4)
    (hrow5 : w5.ownsRow B 148 2 (.slice (some ⟨g, 0, none⟩) l2 cap2) l2 (flat (K2.set a (kl, z)))) (hs5 : Step [g] w4.drew w5) :
    DrAt w B br F m f K0 (j + 1) o' ((w5.setCell ⟨br, 1, none⟩ (.slice (some ⟨g, 0, none⟩) l3 cap2)).setCell ⟨br, 0, none⟩ (.int .u32 ((F + j + 1 : Nat) : Int))).drew := by
  have hvl : vals.length = j := by have := hrow.1; omega
  have hR4 := hR.keepT hs4 (row71 hrow)
  have hR4d := hR4.same (Step.drew w4)
  obtain ⟨h6, s6⟩ := hR4d.strike hl3 hl.symm ha hz hrow5 hs5 (Step.refl (S := []) w5) (Step.refl (S := []) _)
  obtain ⟨p1, hp1, hpu⟩ := hR.r.to _ _ (List.mem_of_getElem? ha)
  have hp1' : f (F + j) = some p1 := by rw [behind7_at, if_neg (by omega)] at hp1; exact hp1
  have hty : ∀ i ∈ [g, br], ∀ ob, w4.drew.heap[i]? = some ob → RefTy ob := fun i hi => by
    simp at hi
    rcases hi with rfl | rfl
    · exact hR4d.tyR rfl
    · exact hR4d.tyO
  have hlo : ∀ i ∈ [g, br], B ≤ i := fun i hi => by
    simp at hi
    rcases hi with rfl | rfl
    · exact (hR.row.lt i rfl).1
    · exact hR.lo
  have hstay : ∀ {x : Value} {q : List Nat}, PayAt B wr x q → PayAt B ((w5.setCell ⟨br, 1, none⟩ (.slice (some ⟨g, 0, none⟩) l3 cap2)).setCell ⟨br, 0, none⟩ (.int .u32 ((F + j + 1 : Nat) : Int))) x q := fun {x q} hx => by
    have h1 : PayAt B w4 x q := ⟨hx.1.step hs4 (fun b hb hm => by
      obtain ⟨cur, hc⟩ := hx.block hb
      obtain ⟨cur', hc'⟩ := row71 hrow b hm
      rw [hc] at hc'; cases hc'), hx.2⟩
    have h2 : PayAt B w4.drew x q := ⟨h1.1.same (Step.drew w4), h1.2⟩
    exact ⟨h2.1.step s6 (fun b hb hm => by
      obtain ⟨cur, hc⟩ := h2.block hb
      exact refTy_not5 (hty b hm) cur hc), h2.2⟩
  refine ⟨.slice (some ⟨g, 0, none⟩) l3 cap2, (K2.set a (kl, z)).dropLast, vals ++ [u], ?_, ?_, ?_, ?_, ?_, ?_, ?_⟩
  · rw [behind7_succ]
    exact h6.same (Step.drew _)
  · simp; omega
  · refine row_step (row_step (row_step hrow4 (Step.drew (S := []) w4) (by simp)) s6 (fun b hb hm => ?_)) (Step.drew (S := []) _) (by simp)
    obtain ⟨cur, hc⟩ := row71 hrow4 b (by simp [hb])
    obtain ⟨c, e, fr, h1, h2⟩ := hty b hm _ hc
    injection h1 with q1 q2 q3
    subst q2
    rcases h2 with h | h <;> cases h
  · intro i x hx
    by_cases hi : i < vals.length
    · rw [List.getElem?_append_left hi] at hx
      obtain ⟨p, h1, h2⟩ := hpay i x hx
      exact ⟨p, h1, (hstay h2).1.same (Step.drew _), h2.2⟩
    · rw [List.getElem?_append_right (by omega)] at hx
      have hi0 := (List.getElem?_eq_some_iff.1 hx).1
      simp at hi0
      have hij : i = j := by omega
      subst hij
      rw [show i - vals.length = 0 by omega] at hx
      simp at hx
      subst hx
      exact ⟨p1, hp1', (hstay hpu).1.same (Step.drew _), hpu.2⟩
  · exact (((hst.push hs4 (fun i hi => have h9 := (hrow.lt i (by simpa using hi)).1; ⟨by omega, .inl h9⟩)).same (Step.drew w4)).push s6 (fun i hi => ⟨hlo i hi, .inr (hty i hi)⟩)).same (Step.drew _)
  · intro q hq
    have hq' := (List.dropLast_sublist _).subset hq
    rcases List.mem_or_eq_of_mem_set hq' with h | h
    · exact hsub q h
    · rw [h]; exact hsub _ (List.mem_of_getElem? hz)
  · intro x hx
    rcases List.mem_append.1 hx with hx | hx
    · exact hsv x hx
    · simp at hx
      subst hx
      exact ⟨_, hsub _ (List.mem_of_getElem? ha)⟩
set_option maxRecDepth 100000 in
set_option maxHeartbeats 2000000 in
theorem refTake_ok (B br F : Nat) (sv : Value) (K : Ents) (f : Kept7) (q : Option Addr) (cap n : Nat) (p : List Nat) (w : World) (h : RefM B w br F sv K f) (hB : B ≤ w.heap.size) (hl : p.length ≤ 256) (hp : ∀ x ∈ p, x < 256) (hr : Reads w (.slice q p.length cap) (u8s p))
    (hn : n < 4294967296) (hF : F + (K.length + 1) < 4294967296) (hK : K.length ≤ 900) (h1 : F ≤ n) (h2 : n < F + 16) (hf : f n = none) :
    Calls Try.prog 72 #[.pointer (some ⟨br, 0, none⟩), .int .u32 (n : Int), .slice q p.length cap] w fun e w' => ∃ v j vals sv' K', e = .returned (.tuple #[v, .int .i64 1, .int .i64 0]) ∧ OwnAt w.heap.size w' 71 v vals ∧ vals.length = j ∧
      (∀ (i : Nat) u, vals[i]? = some u → ∃ p', setK f n (some p) (F + i) = some p' ∧ PayAt B w' u p') ∧ setK f n (some p) (F + j) = none ∧ 
      RefM B w' br (F + j) sv' K' (behind7 F (setK f n (some p)) j) ∧ K'.length + j = K.length + 1 ∧ (∀ q ∈ K', Old K w.heap.size q.2) ∧ (∀ u ∈ vals, Old K w.heap.size u) ∧ StepR B w w' := by
  obtain ⟨i0, hi, hz0, hz1, hz2⟩ := info_parts info71
  obtain ⟨i1, hi1, hy0, hy1, hy2⟩ := info_parts info148
  obtain ⟨ao, cap0, hsv, hcap0, hcm0⟩ := h.form
  subst hsv
  obtain ⟨c0, c1, f0, f1⟩ := h.cells
  have e1 : ((256 : Int) < (p.length : Int)) = False := by simp; omega
  have e2 : ((n : Int) < (F : Int)) = False := by simp; omega
  have HFA := Lib.hid (find_any B br F _ K f n (by omega) w h)
  have a1 : IntKind.u64.wrap (n : Int) = (n : Int) := by rw [IntKind.wrap_u64]; omega
  have a2 : IntKind.u64.wrap (F : Int) = (F : Int) := by rw [IntKind.wrap_u64]; omega
  have a3 : IntKind.u64.wrap ((F : Int) + 16) = (F : Int) + 16 := by rw [IntKind.wrap_u64]; omega
  have e4 : ((F : Int) + 16 ≤ (n : Int)) = False := by simp; omega
  obtain ⟨k1, W1, hrun1, hown1, hst1⟩ := append_nil71 w q p.length cap (u8s p) hr (u8s_one p) (by rw [u8s_length]; omega)
  have HN := Lib.hid hf
  have hr1 := h.same hst1
  obtain ⟨d0, d1, g0, g1⟩ := hr1.cells
  obtain ⟨q1, cap1, hk1, _⟩ := hown1.form
  rw [u8s_length] at hk1
  subst hk1
  obtain ⟨L, hL⟩ : ∃ L, L = K.length := ⟨_, rfl⟩
  have hrow1 := hr1.row
  rw [← hL] at hrow1 c1 d1 hcap0
  obtain ⟨pl, hpl⟩ : ∃ pl, pl = p.length := ⟨_, rfl⟩
  rw [← hpl] at hrun1 e1 ⊢
  rw [← hpl] at hown1
  have H := Lib.hid (And.intro h (And.intro hr1 (And.intro hown1 (And.intro hst1 (And.intro hL (And.intro hpl (And.intro hp hl)))))))
  have HB := Lib.hid (And.intro hB (And.intro hF (And.intro hK hn)))
  have HR := Lib.hid hrow1
  have hLK : L ≤ 900 := by omega
  have hBW : B ≤ W1.heap.size := by have := hst1.size; omega
  have hcm2 : cap0 ≤ 9223372036854775807 := by unfold maxLen at hcm0; omega
  have HR0 := Lib.hid h.r
  have HRun := Lib.hid hrun1
  have HNE := Lib.hid (show br ∉ (Value.slice ao L cap0).ownBlock.toList from fun hm => by
    cases e : (Value.slice ao L cap0).ownBlock with
    | none => rw [e] at hm; simp at hm
    | some g => rw [e] at hm; simp at hm; rw [hL] at e; exact h.neR e hm)
  clear h hr1 hrun1 hown1 hst1 hL hpl hp hl hrow1 hB hF hK hn h1 h2 hf hr hcm0
  go_enter Try.func72, Try.ntmps72
  have hm1 : ∀ r : Int, ((r = -1 ∧ f n = none) ∨ ∃ (j : Nat) (v : Value), r = (j : Int) ∧ K[j]? = some (n, v)) → r = -1 := fun r hr => by
    rcases hr with ⟨e, _⟩ | ⟨j, v, rfl, hj⟩
    · exact e
    · obtain ⟨p, hp, _⟩ := HR0.out.to n v (List.mem_of_getElem? hj)
      rw [HN.out] at hp; cases hp
  have HM1 := Lib.hid hm1
  clear hm1
  go_wp2_with (first
    | (go_at_call 104; refine HFA.out.mono ?_; rintro e w' ⟨rfl, r, rfl, hr⟩; obtain rfl := HM1.out r hr; clear hr)
    | (at_builtin; refine wpList_append_run rfl _ _ 71 rfl _ _ rfl rfl HRun.out ?_; clear HRun)
    | (at_builtin; refine wpList_append_own_at _ rfl _ _ 110 rfl B 148 i1 (.agg #[.int .u32 0, .slice none 0 0]) 2 32 Try.underlying110 hi1 hy0 hy1 hy2 rfl (by decide) _ _ _ rfl (HR.out.alloc _) ⟨W1.heap.size, 0, none⟩ 1 1 [.int .u32 (n : Int), .slice q1 pl cap1] rfl rfl (cell_two_new _ _ _ _) (by simp [Value.oneCell']) (by unfold maxLen; omega) (by omega) (by simp; omega) ?_; intro v' w2 hown' hgrow _ hat; obtain ⟨g', cap', rfl⟩ := ownsRow_succ hown'; have hs2 := appended_step rfl HR.out hgrow; have o2 := obj_step H.out.2.1.o hs2 HNE.out; have m1 := cells_cell (i := 1) o2 rfl; have n1 := cells_frozen (i := 1) o2; have HX := Lib.hid (And.intro hown' hs2); clear hown' hs2 hgrow hat o2))
  obtain ⟨hI, sI⟩ := H.out.2.1.push HN.out ⟨H.out.2.2.1.low (by have := HB.out.1; exact this), H.out.2.2.2.2.2.2.2, H.out.2.2.2.2.2.2.1⟩ (by rw [← H.out.2.2.2.2.1]; exact HX.out.2) (by rw [← H.out.2.2.2.2.1]; exact HX.out.1)
  obtain ⟨w3, hw3⟩ : ∃ w3, w3 = w2.setCell ⟨br, 1, none⟩ (.slice (some ⟨g', 0, none⟩) (L + 1) cap') := ⟨_, rfl⟩
  rw [← hw3] at hI sI ⊢
  obtain ⟨v1, hv1⟩ : ∃ v1, v1 = Value.slice q1 pl cap1 := ⟨_, rfl⟩
  obtain ⟨f1, hf1⟩ : ∃ f1, f1 = setK f n (some p) := ⟨_, rfl⟩
  obtain ⟨K1, hK1⟩ : ∃ K1, K1 = K ++ [(n, v1)] := ⟨_, rfl⟩
  rw [← hv1, ← hK1, ← hf1] at hI
  have HF1 := Lib.hid hf1
  have hst3 : StepR B w w3 := ((StepR.of H.out.2.2.2.1).push sI (fun i hi => by
    rcases List.mem_cons.1 hi with rfl | hi
    · exact ⟨H.out.2.1.lo, .inr H.out.2.1.tyO⟩
    · exact ⟨(H.out.2.1.row.lt i (by simpa using hi)).1, .inr (H.out.2.1.tyR (by simpa using hi))⟩))
  have hold : ∀ q ∈ K1, Old K w.heap.size q.2 := fun q hq => by
    rw [hK1] at hq
    rcases List.mem_append.1 hq with hq | hq
    · exact .inl ⟨q.1, hq⟩
    · simp at hq
      subst hq
      refine .inr fun g hg => ?_
      exact (H.out.2.2.1.block (by rw [hv1] at hg; exact hg)).1
  have h0 : DrAt w B br F K1.length f1 K1 0 (.slice none 0 0) w3 := ⟨_, K1, [], hI, by omega, World.ownsRow_nil w3 _ _ _, by simp, hst3, fun _ h => h, by simp⟩
  have hm1 : K1.length = L + 1 := by rw [hK1, List.length_append]; simp; exact H.out.2.2.2.2.1.symm
  have H0 := Lib.hid h0
  have HO := Lib.hid (And.intro hold (And.intro hm1 H.out.2.2.2.2.1))
  have hFL : F + (L + 1) < 4294967296 := by have := HB.out.2.1; have := H.out.2.2.2.2.1; omega
  have hB3 : B ≤ w.heap.size := HB.out.1
  have hsz3 : w.heap.size ≤ w3.heap.size := by obtain ⟨S, h, _⟩ := hst3; exact h.size
  clear hI sI hst3 hold h0 hm1 hw3 hK1 hf1 hv1 H HB HR HX HN HNE HM1 HFA HR0 c0 c1 d0 d1 f0 g0 g1 e1 e2 a1 a2 a3 e4 m1 n1 hcap0 hBW hcm2
  go_loopw [10] (fun o wr => ∃ j : Nat, o = o ∧ Hid (DrAt w B br F K1.length f1 K1 j o wr)) (fun o wr => (F + (L + 1) + 1) - floorAt wr br)
  case atStart => exact ⟨0, rfl, H0.out⟩
  case round =>
    obtain ⟨j, _, hI⟩ := hrel
    clear H0
    obtain ⟨sv2, K2, vals, hR, hlen, hrow, hpay, hst, hsub, hsv⟩ := hI.out
    obtain ⟨ao2, cap2, hsv2, hcap2, hcm2⟩ := hR.form
    subst hsv2
    obtain ⟨c0, c1, f0, f1'⟩ := hR.cells
    obtain ⟨ao3, cap3, hu⟩ := row_slice hrow
    subst hu
    have hvl : vals.length = j := by have := hrow.1; omega
    have hmL := HO.out.2.1
    have HFI := Lib.hid (find_any B br (F + j) _ K2 (behind7 F f1 j) (F + j) (by omega) wr hR)
    have hbh : behind7 F f1 j (F + j) = f1 (F + j) := by rw [behind7_at, if_neg (by omega)]
    have hjm : j ≤ L + 1 := by omega
    obtain ⟨l2, hl2⟩ : ∃ l2, l2 = K2.length := ⟨_, rfl⟩
    rw [← hl2] at c1 hcap2
    cases hf : f1 (F + j) with
    | none =>
      have HM1 := Lib.hid (show ∀ r : Int, ((r = -1 ∧ behind7 F f1 j (F + j) = none) ∨ ∃ (j' : Nat) (v : Value), r = (j' : Int) ∧ K2[j']? = some (F + j, v)) → r = -1 from fun r hr => by
        rcases hr with ⟨e, _⟩ | ⟨j', v, rfl, hj⟩
        · exact e
        · obtain ⟨p, hp, _⟩ := hR.r.to _ v (List.mem_of_getElem? hj)
          rw [hbh, hf] at hp; cases hp)
      have HZ := Lib.hid (And.intro hR (And.intro hlen (And.intro hrow (And.intro hpay (And.intro hst (And.intro hsub (And.intro hsv (And.intro hvl (And.intro hf hl2)))))))))
      obtain ⟨Fj, hFj⟩ : ∃ Fj, Fj = F + j := ⟨_, rfl⟩
      rw [← hFj] at c0 HFI HM1
      clear hI hR hlen hrow hpay hst hsub hsv hvl hf hbh hFj hmL hl2
      go_wp2_with (first
        | (go_at_call 104; refine HFI.out.mono ?_; rintro e w' ⟨rfl, r, rfl, hr⟩; obtain rfl := HM1.out r hr; clear hr))
      go_ret3
      obtain ⟨hR, hlen, hrow, hpay, hst, hsub, hsv, hvl, hf, hl2⟩ := HZ.out
      rw [HF1.out] at hR hpay hf
      rw [HO.out.2.1, HO.out.2.2] at hlen
      exact ⟨_, j, vals, _, K2, rfl, .ofRow hrow, hvl, hpay, hf, hR, hlen, fun q hq => HO.out.1 q (hsub q hq), fun u hu => by obtain ⟨k, hk⟩ := hsv u hu; exact HO.out.1 _ hk, hst⟩
    | some p1 =>
      obtain ⟨v0, hv0⟩ := hR.r.fro (F + j) p1 (by rw [hbh]; exact hf)
      have hne : K2 ≠ [] := fun e => by rw [e] at hv0; simp at hv0
      obtain ⟨l3, hl3⟩ : ∃ l3, l2 = l3 + 1 := ⟨l2 - 1, by have := List.length_pos_iff.2 hne; omega⟩
      obtain ⟨⟨kl, vl⟩, hz⟩ : ∃ z, K2[l3]? = some z := ⟨_, List.getElem?_eq_getElem (by omega)⟩
      obtain ⟨g, cap', e1, _⟩ := hR.at hz
      obtain ⟨_, _, hpz⟩ := hR.r.to _ vl (List.mem_of_getElem? hz)
      obtain ⟨lq, ln, lc, rfl⟩ := hpz.1.slice'
      clear hpz
      rw [← hl2] at e1 hR
      injection e1 with e1 e6 e7
      subst e1
      subst e7
      have HM1 := Lib.hid (show ∀ r : Int, ((r = -1 ∧ behind7 F f1 j (F + j) = none) ∨ ∃ (j' : Nat) (v : Value), r = (j' : Int) ∧ K2[j']? = some (F + j, v)) → ∃ (a uc un : Nat) (uq : Option Addr), r = (a : Int) ∧ K2[a]? = some (F + j, .slice uq un uc) ∧ a < l2 from fun r hr => by
        rcases hr with ⟨e, h⟩ | ⟨j', v, rfl, hj⟩
        · rw [hbh, hf] at h; cases h
        · obtain ⟨p, hp, hpv⟩ := hR.r.to _ v (List.mem_of_getElem? hj)
          obtain ⟨uq, un, uc, rfl⟩ := hpv.1.slice'
          exact ⟨j', uc, un, uq, rfl, hj, by have := (List.getElem?_eq_some_iff.1 hj).1; omega⟩)
      have HE := Lib.hid (show ∀ (a k : Nat) (v : Value), K2[a]? = some (k, v) → ∀ (W : World), RefM B W br (F + j) (.slice (some ⟨g, 0, none⟩) l2 cap2) K2 (behind7 F f1 j) → W.cell? ⟨g, a * 2, none⟩ = some (.int .u32 (k : Int)) ∧ W.cell? ⟨g, a * 2 + 1, none⟩ = some v from fun a k v ha W h => by
        obtain ⟨g', cap', e1, _, _, e4, e5⟩ := h.at ha
        rw [← hl2] at e1
        injection e1 with e1 e6 e7
        injection e1 with e1
        injection e1 with e1
        subst e1
        exact ⟨e4, e5⟩)
      have HV := Lib.hid hrow
      have HT := Lib.hid (row71 hrow)
      have HR2 := Lib.hid hR
      have hFj2 : F + j < 4294967295 := by omega
      have HZ := Lib.hid (And.intro hlen (And.intro hpay (And.intro hst (And.intro hsub (And.intro hsv (And.intro hvl (And.intro hf (And.intro hl2 hz))))))))
      obtain ⟨Fj, hFj⟩ : ∃ Fj, Fj = F + j := ⟨_, rfl⟩
      have HFj := Lib.hid hFj
      rw [← hFj] at c0 HFI HM1 HE HR2 hFj2
      have hne2 : br ≠ g := hR.neR rfl
      have w1 : IntKind.i64.wrap ((l2 : Int) - 1) = (l3 : Int) := by rw [IntKind.wrap_i64]; omega
      have hll : l3 < l2 := by omega
      have HL3 := Lib.hid hl3
      have hl3b : l2 ≤ 901 := by omega
      have hj901 : j ≤ 901 := by omega
      have hB4 : w.heap.size ≤ wr.heap.size := by obtain ⟨S, h, _⟩ := hst; exact h.size
      have hcm3 : cap2 ≤ 9223372036854775807 := by unfold maxLen at hcm2; omega
      clear hl3 hI hR hlen hrow hpay hst hsub hsv hvl hf hbh hFj hmL hl2 hz hne hv0 e6 hFL hcm2
      go_wp2_with (first
        | (go_at_call 104; refine HFI.out.mono ?_; rintro e w' ⟨rfl, r, rfl, hr⟩; obtain ⟨a, uc, un, uq, rfl, ha, hal⟩ := HM1.out r hr; clear hr; have s1 : ((a : Int) < 0) = False := (by simp); obtain ⟨x1, x2⟩ := HE.out _ _ _ ha _ HR2.out; have HA := Lib.hid ha; clear ha)
        | (at_builtin; refine wpList_append_own_at _ rfl _ _ 102 rfl w.heap.size 71 i0 (.slice none 0 0) 1 24 Try.underlying102 hi hz0 hz1 hz2 rfl (by decide) _ _ _ rfl (HV.out.alloc _) ⟨wr.heap.size, 0, none⟩ 1 1 [.slice uq un uc] rfl rfl (cell_one_new _ _ _) (by simp [Value.oneCell']) (by unfold maxLen; omega) (by omega) (by simp; omega) ?_; intro v' w4 hown' hgrow _ hat; obtain ⟨g4, cap4, rfl⟩ := ownsRow_succ hown'; have hs4 := appended_step rfl HV.out hgrow; have hR4 := HR2.out.keepT hs4 HT.out; obtain ⟨y0, y1, y2, y3⟩ := hR4.cells; obtain ⟨z0, z1⟩ := HE.out _ _ _ HZ.out.2.2.2.2.2.2.2.2 _ hR4; obtain ⟨z4, z5⟩ := HE.out _ _ _ HA.out _ hR4; have z2 := hR4.frz (a * 2); have z3 := hR4.frz (a * 2 + 1); have H4 := Lib.hid (And.intro hown' (And.intro hs4 hR4)); clear hown' hs4 hgrow hat hR4))
      have hR4 := H4.out.2.2.same (Step.drew w4)
      obtain ⟨hO, sO⟩ := hR4.over (r := a) (kl := kl) (vl := .slice lq ln lc) HZ.out.2.2.2.2.2.2.2.1.symm (by rw [← HZ.out.2.2.2.2.2.2.2.1]; exact hal)
      have hk1 : ((w4.drew.setCell ⟨g, a * 2, none⟩ (.int .u32 (kl : Int))).setCell ⟨g, a * 2 + 1, none⟩ (.slice lq ln lc)).heap[br]? = _ := obj_step hR4.o sO (by simp; exact hne2)
      have hzz : (K2.set a (kl, .slice lq ln lc))[l3]? = some (kl, .slice lq ln lc) := by
        rw [List.getElem?_set]
        split
        · rw [if_pos (by rw [← HZ.out.2.2.2.2.2.2.2.1]; exact hal)]
        · exact HZ.out.2.2.2.2.2.2.2.2
      obtain ⟨m0, m1⟩ := flat_at _ _ _ _ hzz
      obtain ⟨g5, cap5, q5, _, _, m0', _⟩ := row_cell hO m0
      obtain ⟨g6, cap6, q6, _, _, m1', _⟩ := row_cell hO m1
      obtain rfl : g = g5 := by injection q5 with q5; injection q5 with q5; injection q5
      obtain rfl : g = g6 := by injection q6 with q6; injection q6 with q6; injection q6
      clear q5 q6
      have hk2 := cells_cell (i := 1) hk1 rfl
      have hk3 := cells_frozen (i := 1) hk1
      
      have HK := Lib.hid (show (fun W : World => W.cell? ⟨br, 1, none⟩ = some (.slice (some ⟨g, 0, none⟩) l2 cap2) ∧ W.cell? ⟨g, l3 * 2, none⟩ = some (.int .u32 (kl : Int)) ∧ W.cell? ⟨g, l3 * 2 + 1, none⟩ = some (.slice lq ln lc)) ((w4.drew.setCell ⟨g, a * 2, none⟩ (.int .u32 (kl : Int))).setCell ⟨g, a * 2 + 1, none⟩ (.slice lq ln lc)) from ⟨hk2, m0', m1'⟩)
      have HO2 := Lib.hid (And.intro hO (And.intro sO hk1))
      clear hR4 hO sO hk1 hzz m0 m1 m0' m1' hk2 hk3
      go_region_held3 (fun W : World => W.cell? ⟨br, 1, none⟩ = some (.slice (some ⟨g, 0, none⟩) l2 cap2) ∧ W.cell? ⟨g, l3 * 2, none⟩ = some (.int .u32 (kl : Int)) ∧ W.cell? ⟨g, l3 * 2 + 1, none⟩ = some (.slice lq ln lc))
        (first | exact ⟨y1, z0, z1⟩ | exact HK.out)
        (fail)
      rename_i hHeld
      rename_i hHeld
      clear hHeld
      have o5 := HO2.out.2.2
      obtain ⟨w5, hw5⟩ : ∃ w5, w5 = ((w4.setCell ⟨g, a * 2, none⟩ (.int .u32 (kl : Int))).setCell ⟨g, a * 2 + 1, none⟩ (.slice lq ln lc)).drew := ⟨_, rfl⟩
      have e5 : (w4.drew.setCell ⟨g, a * 2, none⟩ (.int .u32 (kl : Int))).setCell ⟨g, a * 2 + 1, none⟩ (.slice lq ln lc) = w5 := hw5 ▸ rfl
      rw [e5] at o5 HO2 HK
      have m0 := cells_cell (i := 0) o5 rfl
      have m1 := cells_cell (i := 1) o5 rfl
      have m2 := cells_frozen (i := 0) o5
      have m3 := cells_frozen (i := 1) o5
      have o6 := setCell_obj (obj_step o5 (Step.drew (S := []) w5) (by simp)) 1 (.slice (some ⟨g, 0, none⟩) l3 cap2)
      have p0 := cells_cell (i := 0) o6 rfl
      have p2 := cells_frozen (i := 0) o6
      have hl3c : l3 ≤ cap2 := by omega
      have a1 : IntKind.u32.wrap ((Fj : Int) + 1) = (Fj : Int) + 1 := by rw [IntKind.wrap_u32]; omega
      rw [← hw5]
      clear hw5 e5 o5 o6
      have HD := Lib.hid (show (∃ j_1, True ∧ Hid (DrAt w B br F K1.length f1 K1 j_1 (.slice (some ⟨g4, 0, none⟩) (j + 1) cap4) ((w5.setCell ⟨br, 1, none⟩ (.slice (some ⟨g, 0, none⟩) l3 cap2)).setCell ⟨br, 0, none⟩ (.int .u32 ((Fj + 1 : Nat) : Int))).drew)) ∧
          F + (L + 1) + 1 - floorAt ((w5.setCell ⟨br, 1, none⟩ (.slice (some ⟨g, 0, none⟩) l3 cap2)).setCell ⟨br, 0, none⟩ (.int .u32 ((Fj + 1 : Nat) : Int))).drew br < F + (L + 1) + 1 - floorAt wr br from by
        have hR := HR2.out
        rw [HFj.out] at hR
        have ha := HA.out
        rw [HFj.out] at ha ⊢
        have hD := DrAt.next (w := w) (K0 := K1) (f := f1) hR HZ.out.2.2.2.2.2.2.2.1 HL3.out HZ.out.1 HV.out HZ.out.2.1 hB3 HZ.out.2.2.1 HZ.out.2.2.2.1 HZ.out.2.2.2.2.1 ha HZ.out.2.2.2.2.2.2.2.2 H4.out.1 H4.out.2.1 HO2.out.1 HO2.out.2.1
        refine ⟨⟨j + 1, trivial, hD⟩, ?_⟩
        obtain ⟨_, _, _, h1, _⟩ := hD
        rw [h1.floor, hR.floor]
        have := HZ.out.1
        have := HO.out.2.1
        have := HZ.out.2.2.2.2.2.2.2.1
        have := HL3.out
        omega)
      go_wp2_with fail
      refine wp_region_noPanic ?_
      refine wp_region_held_drew (S := fun _ => True) (by kernel_rfl) trivial (fun hHeld => ?_)
      refine wpAnyH_take (i := 0) (v := ?v0_1) rfl (by kernel_rfl) (by kernel_rfl) (by kernel_rfl) (fun _ _ _ h => h) (Or.inl ⟨by rfl, ?y0_1⟩) (by assumption) ?r0_1
      case y0_1 => ((try simp only [List.getElem_toArray, List.getElem_cons_succ, List.getElem_cons_zero]); intro w hSw; (try dsimp only at hSw); go_simp; first | done | with_reducible rfl)
      (try simp only [Act.put, List.getElem_toArray, List.getElem_cons_succ, List.getElem_cons_zero, List.setIfInBounds_toArray, List.set_cons_zero, List.set_cons_succ])
      refine wpAnyH_take (i := 1) (v := ?v1_2) rfl (by kernel_rfl) (by kernel_rfl) (by kernel_rfl) (fun _ _ _ h => h) (Or.inl ⟨by rfl, ?y1_2⟩) (by assumption) ?r1_2
      case y1_2 => ((try simp only [List.getElem_toArray, List.getElem_cons_succ, List.getElem_cons_zero]); intro w hSw; (try dsimp only at hSw); go_simp; first | done | with_reducible rfl)
      (try simp only [Act.put, List.getElem_toArray, List.getElem_cons_succ, List.getElem_cons_zero, List.setIfInBounds_toArray, List.set_cons_zero, List.set_cons_succ])
      refine wpAnyH_take (i := 2) (v := ?v2_3) rfl (by kernel_rfl) (by kernel_rfl) (by kernel_rfl) (fun _ _ _ h => h) (Or.inl ⟨by rfl, ?y2_3⟩) (by assumption) ?r2_3
      case y2_3 => ((try simp only [List.getElem_toArray, List.getElem_cons_succ, List.getElem_cons_zero]); intro w hSw; (try dsimp only at hSw); go_simp; first | done | with_reducible rfl)
      (try simp only [Act.put, List.getElem_toArray, List.getElem_cons_succ, List.getElem_cons_zero, List.setIfInBounds_toArray, List.set_cons_zero, List.set_cons_succ])
      refine wpAnyH_take (i := 3) (v := ?v3_4) rfl (by kernel_rfl) (by kernel_rfl) (by kernel_rfl) (fun _ _ _ h => h) (Or.inl ⟨by rfl, ?y3_4⟩) (by assumption) ?r3_4
      case y3_4 => ((try simp only [List.getElem_toArray, List.getElem_cons_succ, List.getElem_cons_zero]); intro w hSw; (try dsimp only at hSw); go_simp; first | done | with_reducible rfl)
      (try simp only [Act.put, List.getElem_toArray, List.getElem_cons_succ, List.getElem_cons_zero, List.setIfInBounds_toArray, List.set_cons_zero, List.set_cons_succ])
      refine wpAnyH_take (i := 5) (v := ?v5_5) rfl (by kernel_rfl) (by kernel_rfl) (by kernel_rfl) (fun _ _ _ h => h) (Or.inl ⟨by rfl, ?y5_5⟩) (by assumption) ?r5_5
      case y5_5 => ((try simp only [List.getElem_toArray, List.getElem_cons_succ, List.getElem_cons_zero]); intro w hSw; (try dsimp only at hSw); go_simp; first | done | with_reducible rfl)
      (try simp only [Act.put, List.getElem_toArray, List.getElem_cons_succ, List.getElem_cons_zero, List.setIfInBounds_toArray, List.set_cons_zero, List.set_cons_succ])
      refine wpAnyH_take (i := 6) (v := ?v6_6) rfl (by kernel_rfl) (by kernel_rfl) (by kernel_rfl) (fun _ _ _ h => h) (Or.inl ⟨by rfl, ?y6_6⟩) (by assumption) ?r6_6
      case y6_6 => ((try simp only [List.getElem_toArray, List.getElem_cons_succ, List.getElem_cons_zero]); intro w hSw; (try dsimp only at hSw); go_simp; first | done | with_reducible rfl)
      (try simp only [Act.put, List.getElem_toArray, List.getElem_cons_succ, List.getElem_cons_zero, List.setIfInBounds_toArray, List.set_cons_zero, List.set_cons_succ])
      refine wpAnyH_take (i := 7) (v := ?v7_7) rfl (by kernel_rfl) (by kernel_rfl) (by kernel_rfl) (fun _ _ _ h => h) (Or.inl ⟨by rfl, ?y7_7⟩) (by assumption) ?r7_7
      case y7_7 => ((try simp only [List.getElem_toArray, List.getElem_cons_succ, List.getElem_cons_zero]); intro w hSw; (try dsimp only at hSw); go_simp; first | done | with_reducible rfl)
      (try simp only [Act.put, List.getElem_toArray, List.getElem_cons_succ, List.getElem_cons_zero, List.setIfInBounds_toArray, List.set_cons_zero, List.set_cons_succ])
      refine wpAnyH_ready (rs := [4, 8]) (by kernel_rfl) (by simp) ?_
      refine AllReadyH.cons (o := _) rfl (fun K hK => ?_) ?_
      · go_simp
        refine hK.out _ _ trivial (fun hHeld => ?_)
        clear hK K
        (try simp only [Act.put, List.getElem_toArray, List.getElem_cons_succ, List.getElem_cons_zero, List.setIfInBounds_toArray, List.set_cons_zero, List.set_cons_succ])
        refine wpAnyH_ready (rs := [8]) (by kernel_rfl) (by simp) ?_
        refine AllReadyH.cons (o := _) rfl (fun K hK => ?_) AllReadyH.nil
        go_simp
        refine hK.out _ _ trivial (fun hHeld => ?_)
        clear hK K
        (try simp only [Act.put, List.getElem_toArray, List.getElem_cons_succ, List.getElem_cons_zero, List.setIfInBounds_toArray, List.set_cons_zero, List.set_cons_succ])
        refine wpAnyH_take (i := 9) (v := ?v9_8) rfl (by kernel_rfl) (by kernel_rfl) (by kernel_rfl) (fun _ _ _ h => h) (Or.inl ⟨by rfl, ?y9_8⟩) (by assumption) ?r9_8
        case y9_8 => ((try simp only [List.getElem_toArray, List.getElem_cons_succ, List.getElem_cons_zero]); intro w hSw; (try dsimp only at hSw); go_simp; first | done | with_reducible rfl)
        (try simp only [Act.put, List.getElem_toArray, List.getElem_cons_succ, List.getElem_cons_zero, List.setIfInBounds_toArray, List.set_cons_zero, List.set_cons_succ])
        refine wpAnyH_take (i := 10) (v := ?v10_9) rfl (by kernel_rfl) (by kernel_rfl) (by kernel_rfl) (fun _ _ _ h => h) (Or.inl ⟨by rfl, ?y10_9⟩) (by assumption) ?r10_9
        case y10_9 => ((try simp only [List.getElem_toArray, List.getElem_cons_succ, List.getElem_cons_zero]); intro w hSw; (try dsimp only at hSw); go_simp; first | done | with_reducible rfl)
        (try simp only [Act.put, List.getElem_toArray, List.getElem_cons_succ, List.getElem_cons_zero, List.setIfInBounds_toArray, List.set_cons_zero, List.set_cons_succ])
        refine wpAnyH_take (i := 11) (v := ?v11_10) rfl (by kernel_rfl) (by kernel_rfl) (by kernel_rfl) (fun _ _ _ h => h) (Or.inl ⟨by rfl, ?y11_10⟩) (by assumption) ?r11_10
        case y11_10 => ((try simp only [List.getElem_toArray, List.getElem_cons_succ, List.getElem_cons_zero]); intro w hSw; (try dsimp only at hSw); go_simp; first | done | with_reducible rfl)
        (try simp only [Act.put, List.getElem_toArray, List.getElem_cons_succ, List.getElem_cons_zero, List.setIfInBounds_toArray, List.set_cons_zero, List.set_cons_succ])
        refine wpAnyH_take (i := 12) (v := ?v12_11) rfl (by kernel_rfl) (by kernel_rfl) (by kernel_rfl) (fun _ _ _ h => h) (Or.inl ⟨by rfl, ?y12_11⟩) (by assumption) ?r12_11
        case y12_11 => ((try simp only [List.getElem_toArray, List.getElem_cons_succ, List.getElem_cons_zero]); intro w hSw; (try dsimp only at hSw); go_simp; first | done | with_reducible rfl)
        (try simp only [Act.put, List.getElem_toArray, List.getElem_cons_succ, List.getElem_cons_zero, List.setIfInBounds_toArray, List.set_cons_zero, List.set_cons_succ])
        refine wpAnyH_take (i := 13) (v := ?v13_12) rfl (by kernel_rfl) (by kernel_rfl) (by kernel_rfl) (fun _ _ _ h => h) (Or.inl ⟨by rfl, ?y13_12⟩) (by assumption) ?r13_12
        case y13_12 => ((try simp only [List.getElem_toArray, List.getElem_cons_succ, List.getElem_cons_zero]); intro w hSw; (try dsimp only at hSw); go_simp; first | done | with_reducible rfl)
        (try simp only [Act.put, List.getElem_toArray, List.getElem_cons_succ, List.getElem_cons_zero, List.setIfInBounds_toArray, List.set_cons_zero, List.set_cons_succ])
        refine wpAnyH_ready (rs := [14]) (by kernel_rfl) (by simp) ?_
        refine AllReadyH.cons (o := _) rfl (fun K hK => ?_) AllReadyH.nil
        go_simp
        refine hK.out _ _ trivial (fun hHeld => ?_)
        clear hK K
        (try simp only [Act.put, List.getElem_toArray, List.getElem_cons_succ, List.getElem_cons_zero, List.setIfInBounds_toArray, List.set_cons_zero, List.set_cons_succ])
        refine wpAnyH_done (by kernel_rfl) ?_ _
        refine NoPanic.normal ?_
        clear hHeld
        go_wp2_with fail
        rw [show (Fj : Int) + 1 = ((Fj + 1 : Nat) : Int) by omega]
        exact HD.out
      refine AllReadyH.cons (o := _) rfl (fun K hK => ?_) ?_
      · go_simp
        refine hK.out _ _ trivial (fun hHeld => ?_)
        clear hK K
        (try simp only [Act.put, List.getElem_toArray, List.getElem_cons_succ, List.getElem_cons_zero, List.setIfInBounds_toArray, List.set_cons_zero, List.set_cons_succ])
        refine wpAnyH_take (i := 9) (v := ?v9_13) rfl (by kernel_rfl) (by kernel_rfl) (by kernel_rfl) (fun _ _ _ h => h) (Or.inl ⟨by rfl, ?y9_13⟩) (by assumption) ?r9_13
        case y9_13 => ((try simp only [List.getElem_toArray, List.getElem_cons_succ, List.getElem_cons_zero]); intro w hSw; (try dsimp only at hSw); go_simp; first | done | with_reducible rfl)
        (try simp only [Act.put, List.getElem_toArray, List.getElem_cons_succ, List.getElem_cons_zero, List.setIfInBounds_toArray, List.set_cons_zero, List.set_cons_succ])
        refine wpAnyH_take (i := 10) (v := ?v10_14) rfl (by kernel_rfl) (by kernel_rfl) (by kernel_rfl) (fun _ _ _ h => h) (Or.inl ⟨by rfl, ?y10_14⟩) (by assumption) ?r10_14
        case y10_14 => ((try simp only [List.getElem_toArray, List.getElem_cons_succ, List.getElem_cons_zero]); intro w hSw; (try dsimp only at hSw); go_simp; first | done | with_reducible rfl)
        (try simp only [Act.put, List.getElem_toArray, List.getElem_cons_succ, List.getElem_cons_zero, List.setIfInBounds_toArray, List.set_cons_zero, List.set_cons_succ])
        refine wpAnyH_ready (rs := [4]) (by kernel_rfl) (by simp) ?_
        refine AllReadyH.cons (o := _) rfl (fun K hK => ?_) AllReadyH.nil
        go_simp
        refine hK.out _ _ trivial (fun hHeld => ?_)
        clear hK K
        (try simp only [Act.put, List.getElem_toArray, List.getElem_cons_succ, List.getElem_cons_zero, List.setIfInBounds_toArray, List.set_cons_zero, List.set_cons_succ])
        refine wpAnyH_take (i := 11) (v := ?v11_15) rfl (by kernel_rfl) (by kernel_rfl) (by kernel_rfl) (fun _ _ _ h => h) (Or.inl ⟨by rfl, ?y11_15⟩) (by assumption) ?r11_15
        case y11_15 => ((try simp only [List.getElem_toArray, List.getElem_cons_succ, List.getElem_cons_zero]); intro w hSw; (try dsimp only at hSw); go_simp; first | done | with_reducible rfl)
        (try simp only [Act.put, List.getElem_toArray, List.getElem_cons_succ, List.getElem_cons_zero, List.setIfInBounds_toArray, List.set_cons_zero, List.set_cons_succ])
        refine wpAnyH_take (i := 12) (v := ?v12_16) rfl (by kernel_rfl) (by kernel_rfl) (by kernel_rfl) (fun _ _ _ h => h) (Or.inl ⟨by rfl, ?y12_16⟩) (by assumption) ?r12_16
        case y12_16 => ((try simp only [List.getElem_toArray, List.getElem_cons_succ, List.getElem_cons_zero]); intro w hSw; (try dsimp only at hSw); go_simp; first | done | with_reducible rfl)
        (try simp only [Act.put, List.getElem_toArray, List.getElem_cons_succ, List.getElem_cons_zero, List.setIfInBounds_toArray, List.set_cons_zero, List.set_cons_succ])
        refine wpAnyH_take (i := 13) (v := ?v13_17) rfl (by kernel_rfl) (by kernel_rfl) (by kernel_rfl) (fun _ _ _ h => h) (Or.inl ⟨by rfl, ?y13_17⟩) (by assumption) ?r13_17
        case y13_17 => ((try simp only [List.getElem_toArray, List.getElem_cons_succ, List.getElem_cons_zero]); intro w hSw; (try dsimp only at hSw); go_simp; first | done | with_reducible rfl)
        (try simp only [Act.put, List.getElem_toArray, List.getElem_cons_succ, List.getElem_cons_zero, List.setIfInBounds_toArray, List.set_cons_zero, List.set_cons_succ])
        refine wpAnyH_ready (rs := [14]) (by kernel_rfl) (by simp) ?_
        refine AllReadyH.cons (o := _) rfl (fun K hK => ?_) AllReadyH.nil
        go_simp
        refine hK.out _ _ trivial (fun hHeld => ?_)
        clear hK K
        (try simp only [Act.put, List.getElem_toArray, List.getElem_cons_succ, List.getElem_cons_zero, List.setIfInBounds_toArray, List.set_cons_zero, List.set_cons_succ])
        refine wpAnyH_done (by kernel_rfl) ?_ _
        refine NoPanic.normal ?_
        clear hHeld
        go_wp2_with fail
        rw [show (Fj : Int) + 1 = ((Fj + 1 : Nat) : Int) by omega]
        exact HD.out
      exact AllReadyH.nil
end Go.Proofs.Ytbainekfbonbjaa
