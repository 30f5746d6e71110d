/- intake: ready, the iterator. No statement is proved here; nothing is assumed. -/
import Derived.Test.YtbainekfbonbjaaIntD
import Derived.Test.YtbainekfbonbjaaMapR
import Derived.Test.YtbainekfbonbjaaSeqG
import Derived.Sort.QuietIn
import Derived.Sort.CutIn
import Derived.BigRegionIn
import Derived.Stop.RegionWithIn
namespace Go.Proofs.Ytbainekfbonbjaa
open Go.RowKit Go.Shelf
set_option linter.unusedVariables false
set_option linter.unusedSimpArgs false
attribute [local go_sem] Oper.semAt_some

theorem IntM.keepG {B : Nat} {W W' : World} {bi bm F : Nat} {M : Ents} {f : Kept7} {S : List Nat} (h : IntM B W bi bm F M f) (hs : Step S W W') (h1 : bi ∉ S) (h2 : bm ∉ S) (h3 : ∀ q ∈ M, ∀ g, q.2.ownBlock = some g → g ∉ S) : IntM B W' bi bm F M f :=
  ⟨obj_step h.o hs h1, h.lo, h.m.keep hs h2, ⟨h.r.nd, fun k x hx => by obtain ⟨p, h4, h5⟩ := h.r.to k x hx; exact ⟨p, h4, h5.1.step hs (h3 _ hx), h5.2⟩, h.r.fro⟩⟩
theorem PayAt.calm {B B' : Nat} {W W' : World} {v : Value} {p : List Nat} (h : PayAt B W v p) (hc : Calm B' W W') : PayAt B W' v p := by
  refine ⟨?_, h.2⟩
  rcases h.1 with h | ⟨g, off, cap, cur, rfl, hb, hg, rest⟩
  · exact .inl h
  · exact .inr ⟨g, off, cap, cur, rfl, hb, obj_calm hg hc rfl, rest⟩
theorem IntM.calm {B B' : Nat} {W W' : World} {bi bm F : Nat} {M : Ents} {f : Kept7} (h : IntM B W bi bm F M f) (hc : Calm B' W W') : IntM B W' bi bm F M f :=
  ⟨obj_calm h.o hc rfl, h.lo, h.m.calm hc, ⟨h.r.nd, fun k x hx => by obtain ⟨p, h4, h5⟩ := h.r.to k x hx; exact ⟨p, h4, h5.calm hc⟩, h.r.fro⟩⟩
theorem PayAt.block {B : Nat} {W : World} {v : Value} {p : List Nat} (h : PayAt B W v p) {g : Nat} (hg : v.ownBlock = some g) : ∃ cur, W.heap[g]? = some (.cells cur 5 (0, 0)) := by
  obtain ⟨_, _, h⟩ := h.1.block hg
  exact h
theorem IntM.apart {B : Nat} {W : World} {bi bm F : Nat} {M : Ents} {f : Kept7} (h : IntM B W bi bm F M f) : ∀ q ∈ M, ∀ g, q.2.ownBlock = some g → g ∉ [bi, bm] := by
  intro q hq g hg hm
  obtain ⟨p, _, hp⟩ := h.r.to q.1 q.2 hq
  obtain ⟨cur, hc⟩ := hp.block hg
  simp at hm
  rcases hm with rfl | rfl
  · rw [show W.heap[g]? = _ from h.o] at hc; cases hc
  · obtain ⟨es, c, hb⟩ := h.m.block
    rw [hb] at hc; cases hc
theorem IntM.has {B : Nat} {W : World} {bi bm F : Nat} {M : Ents} {f : Kept7} (h : IntM B W bi bm F M f) (k : Nat) : hasE M k = (f k).isSome := by
  rw [Bool.eq_iff_iff, hasE_iff, Option.isSome_iff_exists]
  constructor
  · rintro ⟨v, hv⟩; obtain ⟨p, hp, _⟩ := h.r.to k v hv; exact ⟨p, hp⟩
  · rintro ⟨p, hp⟩; exact h.r.fro k p hp
theorem IntM.ne {B : Nat} {W : World} {bi bm F : Nat} {M : Ents} {f : Kept7} (h : IntM B W bi bm F M f) : bi ≠ bm := by
  intro e
  subst e
  obtain ⟨es, c, hb⟩ := h.m.block
  rw [show W.heap[bi]? = _ from h.o] at hb; cases hb
theorem has7_M {B : Nat} {W : World} {bi bm F : Nat} {M : Ents} {f : Kept7} (h : IntM B W bi bm F M f) (k n : Nat) (hk : k < 4294967296) (b : Bool) (hb : (f k).isSome = b) :
    Calls Try.prog 99 #[.pointer (some ⟨bi, 0, none⟩), .int .u32 (k : Int)] (W.drewN n) fun e w' => e = .returned (.bool b) ∧ w' = W.drewN n := by
  rw [← hb, ← h.has k]
  have h2 := h.same (Step.drewN (S := []) W n)
  exact has7_any bi F bm k hk M (W.drewN n) h2.o h2.m
/-- One number is taken off the map, and the floor is raised. -/
theorem IntM.drop {B : Nat} {W W' : World} {bi bm F F' k : Nat} {M : Ents} {f : Kept7} (h : IntM B W bi bm F M f) (hs : Step [bm] W W') (hm : MapV W' bm (delE M k)) :
    IntM B (W'.setCell ⟨bi, 0, none⟩ (.int .u32 (F' : Int))) bi bm F' (delE M k) (setK f k none) ∧ Step [bi, bm] W (W'.setCell ⟨bi, 0, none⟩ (.int .u32 (F' : Int))) := by
  have ho : W'.heap[bi]? = some (intObj F (some bm)) := obj_step h.o hs (by simp; exact h.ne)
  have h2 : Step [bi, bm] W' (W'.setCell ⟨bi, 0, none⟩ (.int .u32 (F' : Int))) := Step.setObj ho rfl (by simp) _ _
  have h3 : Step [bi] W' (W'.setCell ⟨bi, 0, none⟩ (.int .u32 (F' : Int))) := Step.setObj ho rfl (by simp) _ _
  have h4 : Step [bi, bm] W (W'.setCell ⟨bi, 0, none⟩ (.int .u32 (F' : Int))) := (hs.mono (fun i hi _ => by simp at hi ⊢; exact .inr hi)).trans h2
  refine ⟨⟨setCell_obj ho 0 _, h.lo, hm.keep h3 (by simp; exact fun e => h.ne e.symm), ⟨nodup_del h.r.nd _, fun j x hx => ?_, fun j p hp => ?_⟩⟩, h4⟩
  · obtain ⟨hx1, hx2⟩ := mem_delE.1 hx
    obtain ⟨p, hp, hq⟩ := h.r.to j x hx1
    exact ⟨p, by rw [setK_other _ _ hx2]; exact hp, hq.1.step h4 (h.apart _ hx1), hq.2⟩
  · by_cases e : j = k
    · subst e; rw [setK_same] at hp; cases hp
    · rw [setK_other _ _ e] at hp
      obtain ⟨x, hx⟩ := h.r.fro j p hp
      exact ⟨x, mem_delE.2 ⟨hx, e⟩⟩

/-- What lies at the head of the k-th round of ready. -/
def RdyAt (B bi bm br F m : Nat) (f : Kept7) (M0 : Ents) (C : Nat → World → Prop) (k : Nat) (W : World) : Prop :=
  (∃ M, IntM B W bi bm (F + k) M (behind7 F f k) ∧ M.length + k = m ∧ ∀ q ∈ M, q ∈ M0) ∧ Boxed W br 98 (.pointer (some ⟨bi, 0, none⟩)) ∧ C k W
/-- What holds where ready hands out a payload. -/
def RdyMid (B bi bm br F m : Nat) (f : Kept7) (M0 : Ents) (C : Nat → World → Prop) (s : Nat × Value) (W : World) : Prop :=
  ((∃ M, IntM B W bi bm (F + (s.1 + 1)) M (behind7 F f (s.1 + 1)) ∧ M.length + (s.1 + 1) = m ∧ ∀ q ∈ M, q ∈ M0) ∧ Boxed W br 98 (.pointer (some ⟨bi, 0, none⟩)) ∧ C s.1 W) ∧ (∃ p, f (F + s.1) = some p ∧ PayAt B W s.2 p) ∧ (F + s.1, s.2) ∈ M0
/-- The floor as it stands in the cell. -/
def floorAt (W : World) (bi : Nat) : Nat := match W.cell? ⟨bi, 0, none⟩ with | some (.int _ n) => n.toNat | _ => 0

theorem RdyAt.floor {B bi bm br F m : Nat} {f : Kept7} {M0 : Ents} {C : Nat → World → Prop} {k : Nat} {W : World} (h : RdyAt B bi bm br F m f M0 C k W) : floorAt W bi = F + k ∧ k ≤ m := by
  obtain ⟨⟨M, h1, h2, _⟩, _⟩ := h
  refine ⟨?_, by omega⟩
  unfold floorAt
  rw [(int_cells h1.o).1]
  exact Int.toNat_natCast _
set_option maxRecDepth 100000 in
set_option maxHeartbeats 2000000 in
theorem ready_gives (B B' bi bm br F m : Nat) (f : Kept7) (M0 : Ents) (C : Nat → World → Prop) (hF : F + m < 4294967296)
    (hCc : ∀ k A D, C k A → Calm B' A D → C k D) (hCs : ∀ k A D, C k A → Step [bi, bm] A D → C k D)
    (l : Nat) (rc : World → Prop) (Jx : Nat × Value → World → Prop) (W1 : World) (X1 : List Nat) (hsz : B' ≤ W1.heap.size) (hX : ∀ k ∈ X1, k < W1.heap.size) (hrc : ∀ A C, rc A → Calm W1.heap.size A C → rc C) (hrb : ∀ A C, rc A → BookX [] A C → rc C) (hJx : Abide W1.heap.size Jx)
    (hY : ∀ s W', RdyMid B bi bm br F m f M0 C s W' → rc W' → Yields Try.prog l #[s.2] W' (fun e1 W'' => ((e1 = .returned (.bool true) ∧ RdyAt B bi bm br F m f M0 C (s.1 + 1) W'' ∧ rc W'') ∨ (e1 = .returned (.bool false) ∧ Jx s W'')) ∧ BookX X1 W' W''))
    (h0 : RdyAt B bi bm br F m f M0 C 0 W1) (hr0 : rc W1) :
    Calls Try.prog 115 (#[.func (.yield l) #[] #[]] ++ #[.pointer (some ⟨br, 0, none⟩)]) W1 (fun e1 W' => (∃ v, e1 = .returned v) ∧ (((∃ K, RdyAt B bi bm br F m f M0 C K W' ∧ f (F + K) = none) ∧ rc W') ∨ ∃ s, Jx s W')) := by
  have HI := Lib.hid (And.intro h0 hr0)
  have HF := Lib.hid hF
  have HC := Lib.hid (And.intro hCc hCs)
  have HR := Lib.hid (And.intro hrc hrb)
  have HY := Lib.hid hY
  clear h0 hr0 hF hCc hCs hrc hrb hJx hY hX hsz
  refine (callsIn_wide (n := 0)).1 (callsIn_of_wp Try.func115 rfl trivial ?_ rfl)
  simp only [Try.ntmps115, List.size_toArray, List.length_cons, List.length_nil, Nat.reduceAdd, Nat.reduceSub, Array.replicate_succ, Array.replicate_zero, List.push_toArray, List.append_toArray, List.nil_append, List.cons_append]
  gi_wp2_with fail
  gi_loopw [3] (fun i wr => ∃ k : Nat, i = i ∧ Hid (RdyAt B bi bm br F m f M0 C k wr ∧ rc wr)) (fun i wr => (F + m + 1) - floorAt wr bi)
  case atStart => exact ⟨0, rfl, HI.out⟩
  case round =>
    obtain ⟨k, _, hI⟩ := hrel
    clear HI
    obtain ⟨⟨⟨M, hN, hlen, hsub⟩, hb, hC⟩, hr⟩ := hI.out
    obtain ⟨q, hq⟩ : ∃ q, q = F + k := ⟨_, rfl⟩
    rw [← hq] at hN
    have cb := hb.cell
    obtain ⟨c0, c1, f0⟩ := int_cells hN.o
    have hqb : q < 4294967296 := by have := HF.out; omega
    have HQ := Lib.hid (And.intro hq (And.intro hlen hsub))
    have HN := Lib.hid hN
    have HM := Lib.hid hI.out
    have hbq : behind7 F f k q = f q := by rw [behind7_at, if_neg (by omega)]
    cases hf : f q with
    | none =>
      have Q0 := Lib.hid (fun n => has7_M hN q n hqb false (by rw [hbq, hf]; rfl))
      have HFN := Lib.hid hf
      clear hN hb hC hr hlen hsub hq hqb hI hf hbq f0
      gi_wp2_with fail
      gi_quiet ((gi_at_call 99; with_reducible exact CallsIn.quiet_of_same (inW (Q0.out _))))
      gi_wp2
      go_end0
      refine ⟨⟨_, rfl⟩, .inl ⟨⟨k, ?_, by rw [← HQ.out.1]; exact HFN.out⟩, HR.out.2 _ _ HM.out.2 (Step.drewN (S := []) wr nq).book⟩⟩
      exact ⟨⟨M, by rw [← HQ.out.1]; exact HN.out.same (Step.drewN _ _), HQ.out.2⟩, boxed_step HM.out.1.2.1 (Step.drewN (S := []) wr nq) (by simp), HC.out.2 _ _ _ HM.out.1.2.2 (Step.drewN _ _)⟩
    | some p =>
      have Q0 := Lib.hid (fun n => has7_M hN q n hqb true (by rw [hbq, hf]; rfl))
      obtain ⟨v, hv⟩ := hN.r.fro q p (by rw [hbq, hf])
      have HFN := Lib.hid hf
      have HV := Lib.hid hv
      have HPV := Lib.hid (hN.r.to q v hv)
      have hlt : M.length ≠ 0 := fun e => by rw [List.eq_nil_of_length_eq_zero e] at hv; cases hv
      have hwr : IntKind.u32.wrap ((q : Int) + 1) = (q : Int) + 1 := by
        have := HF.out
        rw [IntKind.wrap_u32]; omega
      clear hN hb hC hr hlen hsub hq hI hf hbq hv
      gi_wp2_with fail
      gi_quiet ((gi_at_call 99; with_reducible exact CallsIn.quiet_of_same (inW (Q0.out _))))
      clear Q0
      gi_wp2_with fail
      obtain ⟨w2, hw2⟩ : ∃ w2, w2 = wr.drewN nq := ⟨_, rfl⟩
      rw [← hw2]
      have hs2 : Step [] wr w2 := by rw [hw2]; exact Step.drewN _ _
      clear hw2
      replace cb := step_cell hs2 cb
      replace c0 := step_cell hs2 c0
      replace c1 := step_cell hs2 c1
      have hN2 := HN.out.same hs2
      have hl : ∀ n, (Instr.lookup 99 (.map (some bm)) (.int .u32 (q : Int)) false).run Try.prog (w2.drewN n) = .ok v (w2.drewN n) := fun n => by
        have := (hN2.m.keep (Step.drewN (S := []) w2 n) (by simp)).look Try.underlying99 (zero71 (w2.drewN n)) hqb
        rwa [getE_mem hN2.r.nd HV.out] at this
      have HS2 := Lib.hid hs2
      clear hs2 hN2
      gi_quiet (fail)
      clear hl
      obtain ⟨w3, hw3⟩ : ∃ w3, w3 = w2.drewN nq := ⟨_, rfl⟩
      rw [← hw3]
      have hs3 : Step [] w2 w3 := by rw [hw3]; exact Step.drewN _ _
      clear hw3
      have HS3 := Lib.hid (HS2.out.trans hs3)
      replace cb := step_cell hs3 cb
      replace c0 := step_cell hs3 c0
      replace c1 := step_cell hs3 c1
      have hs4 : Step [] w3 w3.drew := Step.drew _
      have hN4 := HN.out.same (HS3.out.trans hs4)
      obtain ⟨w5, hdel, hm5, hs5⟩ := hN4.m.drop Try.underlying99 hqb 0
      have HD := Lib.hid (And.intro hm5 hs5)
      have HB4 := Lib.hid (boxed_step (boxed_step HM.out.1.2.1 (HS3.out.trans hs4) (by simp)) hs5 (by simp; intro e; subst e; obtain ⟨es, c, h⟩ := hN4.m.block; rw [show w3.drew.heap[br]? = _ from boxed_step HM.out.1.2.1 (HS3.out.trans hs4) (by simp)] at h; cases h))
      have ho5 : IntObj w5 bi q (some bm) := obj_step hN4.o hs5 (by simp; exact hN4.ne)
      have HC5 := Lib.hid (And.intro HB4.out.cell (And.intro (int_cells ho5).1 (int_cells ho5).2.1))
      clear hs3 hs4 hN4 HS2 hm5 hs5 ho5
      gi_wp2_with fail
      refine wpIn_wide.2 ?_
      go_region_held3 (fun W => W.cell? ⟨br, 0, none⟩ = some (.pointer (some ⟨bi, 0, none⟩)) ∧ W.cell? ⟨bi, 0, none⟩ = some (.int .u32 (q : Int)) ∧ W.cell? ⟨bi, 1, none⟩ = some (.map (some bm)))
        (first | exact ⟨cb, c0, c1⟩ | exact HC5.out) (fail)
      rename_i hHeld
      clear hHeld
      obtain ⟨cb5, c05, c15⟩ := HC5.out
      have f05 : w5.frozen? ⟨bi, 0, none⟩ = false := cells_frozen (show w5.heap[bi]? = _ from obj_step (HN.out.same (HS3.out.trans (Step.drew w3))).o HD.out.2 (by simp; exact HN.out.ne))
      clear hdel
      have hd := (HN.out.same (HS3.out.trans (Step.drew w3))).drop (F' := q + 1) HD.out.2 HD.out.1
      rw [show (((q + 1 : Nat) : Nat) : Int) = (q : Int) + 1 by push_cast; rfl] at hd
      have hs6 : Step [bi, bm] wr (w5.setCell ⟨bi, 0, none⟩ (.int .u32 ((q : Int) + 1))) := (HS3.out.trans (Step.drew w3)).nil_mono.trans hd.2
      have hmid : RdyMid B bi bm br F m f M0 C (k, v) (w5.setCell ⟨bi, 0, none⟩ (.int .u32 ((q : Int) + 1))) := by
        obtain ⟨p', hp', hpay⟩ := HPV.out
        refine ⟨⟨⟨delE M q, ?_, ?_, fun x hx => HQ.out.2.2 x (mem_delE.1 hx).1⟩, ?_, HC.out.2 _ _ _ HM.out.1.2.2 hs6⟩, ⟨p, by show f (F + k) = some p; rw [← HQ.out.1]; exact HFN.out, ?_⟩, by show (F + k, v) ∈ M0; rw [← HQ.out.1]; exact HQ.out.2.2 _ HV.out⟩
        · have h1 := hd.1
          rw [show behind7 F f (k + 1) = setK (behind7 F f k) q none by rw [HQ.out.1]; rfl]
          rw [show F + (k + 1) = q + 1 by have := HQ.out.1; omega]
          exact h1
        · show (delE M q).length + (k + 1) = m
          have h1 := len_del HN.out.r.nd q
          rw [if_pos (hasE_iff.2 ⟨v, HV.out⟩)] at h1
          have := HQ.out.2.1
          omega
        · exact boxed_step HB4.out (Step.setObj (S := [bi]) (show w5.heap[bi]? = some (intObj q (some bm)) from obj_step (HN.out.same (HS3.out.trans (Step.drew w3))).o HD.out.2 (by simp; exact HN.out.ne)) rfl (by simp) _ _) (by
            simp
            intro e
            subst e
            have h1 := HB4.out
            rw [Boxed, show w5.heap[br]? = some (intObj q (some bm)) from obj_step (HN.out.same (HS3.out.trans (Step.drew w3))).o HD.out.2 (by simp; exact HN.out.ne)] at h1
            cases h1)
        · have e1 : p' = p := by
            rw [behind7_at, if_neg (by have := HQ.out.1; omega), HFN.out] at hp'
            exact (Option.some.inj hp').symm
          subst e1
          exact ⟨hpay.1.step hs6 (HN.out.apart _ HV.out), hpay.2⟩
      obtain ⟨fn, tmps, assign, body, hy, hRR⟩ := HY.out (k, v) _ hmid (HR.out.2 _ _ HM.out.2 hs6.book)
      clear hmid hd hs6 cb c0 c1
      gi_wp2_with fail
      refine hRR.mono ?_
      rintro e1 W4 ⟨(⟨rfl, hp, hrc4⟩ | ⟨rfl, hjx⟩), hb4⟩
      · have HP := Lib.hid (And.intro hp hrc4)
        clear hp hrc4 hb4 hRR hy
        gi_wp2
        go_roundw
        case rel => exact ⟨k + 1, trivial, HP.out⟩
        case measure =>
          have h1 := HM.out.1.floor
          have h2 := HP.out.1.floor
          omega
      · have HP := Lib.hid hjx
        clear hjx hb4 hRR hy
        gi_wp2
        refine bodyPost_ret (results_none rfl _ _ _) rfl ?_
        exact ⟨⟨_, rfl⟩, .inr ⟨_, HP.out⟩⟩
end Go.Proofs.Ytbainekfbonbjaa
