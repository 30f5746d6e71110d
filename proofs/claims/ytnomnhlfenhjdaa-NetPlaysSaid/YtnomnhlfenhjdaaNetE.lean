/- net: Send. No statement is proved here; nothing is assumed. -/
import Derived.Test.YtnomnhlfenhjdaaNetD
import Derived.Deep.RegionLaw
import Derived.Deep.RegionLawGrows
import Derived.OwnWalkIn
import Derived.TacticsInMore
import Derived.LoopNIn
import Derived.LoopIn
import Derived.Deep.QuietTactic
import Derived.BigQuiet
import Derived.Maps.OwnIn
import Derived.Deep.RegionHeld3
import Derived.Laws.Bits64
namespace Go.Proofs.Ytnomnhlfenhjdaa
open Go.RowKit Go.Shelf
set_option linter.unusedVariables false
set_option linter.unusedSimpArgs false
attribute [local go_sem] Oper.semAt_some



/-- ONE MORE ELEMENT, at a step of a region that draws its order. -/
theorem step_push0 {P : Program} {ops : Array Oper} {o : Oper} {a : Act} {w : World} {K : Act → World → Prop} {Q : Exit → Act → World → Prop} {E : Prop} (hgd : o.guard = none) (s x : Operand) (t : TypeId)
    (hop : o.op = Op.call { callee := Callee.builtin Builtin.append, args := #[s, x], argTypes := #[t, t] })
    (e : TypeId) (i : TypeInfo) (z : Value) (bytes : Nat) (h1 : P.underlying t = some (.slice e)) (h2 : P.info? e = some i) (h3 : i.zero = some z) (h4 : i.size = 1) (h5 : i.bytes = bytes) (h6 : z.cells.size = 1)
    (B : Nat) (v : Value) (vals : List Value) (hs : a.eval s = v) (hown : OwnAt B w e v vals) (he : heldType e = false) (ad : Addr) (c : Nat) (u : Value) (hx : a.eval x = .slice (some ad) 1 c) (hc : w.cell? ad = some u) (h1c : u.oneCell' = true)
    (hlen : vals.length < 1000000) (hbytes : bytes ≤ 1000) (hB : B ≤ w.heap.size)
    (hK : ∀ v' w', OwnAt B w' e v' (vals ++ [u]) → (∀ S, (∀ g, v.ownBlock = some g → g ∈ S) → Step S w w') → (∀ g, v'.ownBlock = some g → v.ownBlock = some g ∨ w.heap.size ≤ g) → K (a.put o.dst v') w') :
    if Region.wanted o (yielded ops a.tmps) = true then Oper.wp P o a w K Q else E := by
  have hb2 : (vals.length + 1) * bytes ≤ 140737488355328 := Nat.le_trans (Nat.mul_le_mul (show vals.length + 1 ≤ 1000000 by omega) hbytes) (by omega)
  have hcells : ∀ j u', [u][j]? = some u' → w.cell? (ad.add j) = some u' := by
    intro j u' hj
    cases j with
    | zero => simp at hj; subst hj; simpa [Addr.add] using hc
    | succ j => simp at hj
  have hgrow : ∀ v' w', w'.ownsRow w.heap.size e 1 v' (vals.length + 1) (vals ++ [u]) → w.grownBy w' none → K (a.put o.dst v') w' := by
    intro v' w' ho hg
    refine hK v' w' ?_ (fun S _ => Step.grown hg (fun j hj => by cases hj)) (fun g hg' => .inr ((OwnAt.ofRow ho).block hg').1)
    rcases OwnAt.ofRow ho with h | ⟨g, off, cap, cur, hv, hb, rest⟩
    · exact .inl h
    · exact .inr ⟨g, off, cap, cur, hv, by omega, rest⟩
  rcases hown with ⟨rfl, rfl⟩ | ⟨g, off, cap, cur, rfl, hb, hg, hl1, hl2, hl3, hl4⟩
  · refine step_append_grows hgd s x t hop e i z 1 bytes h1 h2 h3 h4 h5 h6 (by omega) none 0 0 [] hs (fun _ => ⟨rfl, rfl⟩) (by simp) (fun _ h => by cases h) ad 1 c [u] hx (by simp) hcells (by simpa using h1c) (by omega) (by simp [maxLen]) (by simpa using hb2) ?_
    intro v' w' ho hg
    exact hgrow v' w' (by simpa using ho) hg
  · by_cases hr : vals.length + 1 ≤ cap
    · refine step_append_room hgd s x t hop e i 1 h1 h2 h4 g off vals.length cap hs ad 1 c [u] hx (by simp) hcells (by simpa using h1c) hr ?_ ?_
      · intro j hj
        simp at hj
        subst hj
        obtain ⟨y, hy⟩ : ∃ y, cur[off + vals.length]? = some y := ⟨_, Array.getElem?_eq_getElem (by omega)⟩
        refine ⟨?_, cells_frozen hg⟩
        rw [show off + vals.length * 1 + 0 = off + vals.length by omega, cells_cell hg hy]
        rfl
      · rw [show off + vals.length * 1 = off + vals.length by omega]
        show K _ (w.setCell ⟨g, off + vals.length, none⟩ u)
        have hset := setCell_obj hg (off + vals.length) u
        have := hK (.slice (some ⟨g, off, none⟩) (vals.length + 1) cap) (w.setCell ⟨g, off + vals.length, none⟩ u) (.inr ⟨g, off, cap, _, by simp, hb, hset, by simp; omega, hl2, by simp; omega, fun j hj => ?_⟩) (fun S hS => Step.setObj hg he (hS g rfl) _ _) (fun g' hg' => .inl hg')
        · exact this
        · simp only [List.length_append, List.length_cons, List.length_nil] at hj
          by_cases hjl : j < vals.length
          · rw [Array.getElem?_setIfInBounds_ne (by omega), hl4 j hjl, List.getElem?_append_left hjl]
          · obtain rfl : j = vals.length := by omega
            rw [Array.getElem?_setIfInBounds_self_of_lt (by omega)]
            simp
    · refine step_append_grows hgd s x t hop e i z 1 bytes h1 h2 h3 h4 h5 h6 (by omega) (some ⟨g, off, none⟩) vals.length cap vals hs (fun h => by cases h) (by simp) (fun b hb' => ?_) ad 1 c [u] hx (by simp) hcells (by simpa using h1c) (by omega) (by unfold maxLen; omega) hb2 (fun v' w' ho hg' => hgrow v' w' ho hg')
      intro j u' hj
      cases hb'
      rw [add_plain']
      exact cells_cell hg ((hl4 j (List.getElem?_eq_some_iff.1 hj).1).trans hj)

/-- The same, whatever has been yielded. -/
theorem step_push {P : Program} {ops : Array Oper} {o : Oper} {a : Act} {w : World} {K : Act → World → Prop} {Q : Exit → Act → World → Prop} {E : Prop} {T : Array Value} (hgd : o.guard = none) (s x : Operand) (t : TypeId)
    (hop : o.op = Op.call { callee := Callee.builtin Builtin.append, args := #[s, x], argTypes := #[t, t] })
    (e : TypeId) (i : TypeInfo) (z : Value) (bytes : Nat) (h1 : P.underlying t = some (.slice e)) (h2 : P.info? e = some i) (h3 : i.zero = some z) (h4 : i.size = 1) (h5 : i.bytes = bytes) (h6 : z.cells.size = 1)
    (B : Nat) (v : Value) (vals : List Value) (hs : a.eval s = v) (hown : OwnAt B w e v vals) (he : heldType e = false) (ad : Addr) (c : Nat) (u : Value) (hx : a.eval x = .slice (some ad) 1 c) (hc : w.cell? ad = some u) (h1c : u.oneCell' = true)
    (hlen : vals.length < 1000000) (hbytes : bytes ≤ 1000) (hB : B ≤ w.heap.size)
    (hK : ∀ v' w', OwnAt B w' e v' (vals ++ [u]) → (∀ S, (∀ g, v.ownBlock = some g → g ∈ S) → Step S w w') → (∀ g, v'.ownBlock = some g → v.ownBlock = some g ∨ w.heap.size ≤ g) → K (a.put o.dst v') w') :
    if Region.wanted o (yielded ops T) = true then Oper.wp P o a w K Q else E := by
  have h := step_push0 (ops := ops) (E := E) hgd s x t hop e i z bytes h1 h2 h3 h4 h5 h6 B v vals hs hown he ad c u hx hc h1c hlen hbytes hB hK (Q := Q)
  have hw : Region.wanted o (yielded ops a.tmps) = true := by simp [Region.wanted, hgd]
  have hw2 : Region.wanted o (yielded ops T) = true := by simp [Region.wanted, hgd]
  rw [if_pos hw] at h
  rw [if_pos hw2]
  exact h

theorem enc_slice (s : Sl) : encS s = .slice s.1 s.2.1 s.2.2 := rfl
theorem OwnAt.encS {B : Nat} {W : World} {e : TypeId} {v : Value} {vals : List Value} (h : OwnAt B W e v vals) : ∃ s : Sl, v = Go.Proofs.Ytnomnhlfenhjdaa.encS s := by
  obtain ⟨q, n, c, rfl⟩ := h.slice'
  exact ⟨(q, n, c), rfl⟩

theorem OwnAt.low {B B' : Nat} {W : World} {e : TypeId} {v : Value} {vals : List Value} (hB : B ≤ B') (h : OwnAt B' W e v vals) : OwnAt B W e v vals := by
  rcases h with h | ⟨g, off, cap, cur, rfl, hb, rest⟩
  · exact .inl h
  · exact .inr ⟨g, off, cap, cur, rfl, by omega, rest⟩
theorem cell_new2 {w : World} {h : Nat} {v : Value} {t : TypeId} (hh : w.heap.size = h) : (w.alloc (.cells #[v] t)).cell? ⟨h, 0, none⟩ = some v := by
  subst hh
  exact cells_cell (by rw [heap_alloc_get, if_pos rfl]) rfl
/-- One more element in a row. -/
theorem NetAt.push {B : Nat} {W W' : World} {bn : Nat} {r : Nat → Value} {e : Nat → List Sl} {d : Nat → List (List Value)} (h : NetAt B W bn r e d) {way : Nat} (hw : way < 2) {v' : Value} {s : Sl} {c : List Value}
    (ho : OwnAt B W 5 (encS s) c) (hf : ∀ g, (encS s).ownBlock = some g → ∀ k, k < 2 → ∀ (j : Nat) (s' : Sl), (e k)[j]? = some s' → (encS s').ownBlock ≠ some g)
    (hs : ∀ S, (∀ g, (r way).ownBlock = some g → g ∈ S) → Step S W W') (hown : OwnAt B W' 68 v' ((e way).map encS ++ [encS s])) (hb : ∀ g, v'.ownBlock = some g → (r way).ownBlock = some g ∨ W.heap.size ≤ g) :
    NetAt B (W'.setCell ⟨bn, 1 + way, none⟩ v') bn (upd r way v') (upd e way (e way ++ [s])) (upd d way (d way ++ [c])) ∧ StepB B W (W'.setCell ⟨bn, 1 + way, none⟩ v') ∧ W'.cell? ⟨bn, 1 + way, none⟩ = some (r way) ∧ W'.frozen? ⟨bn, 1 + way, none⟩ = false ∧ (∀ v c, OwnAt B W 5 v c → OwnAt B (W'.setCell ⟨bn, 1 + way, none⟩ v') 5 v c) := by
  have hs1 := hs ((r way).ownBlock.toList) (fun g hg => by simp [hg])
  have hgo : ∀ {s : Sl} {c : List Value}, OwnAt B W 5 (encS s) c → OwnAt B W' 5 (encS s) c := fun h3 => h3.step hs1 (fun g hg hm => by
    simp at hm
    obtain ⟨_, _, c1, hc1⟩ := h3.block hg
    obtain ⟨_, _, c2, hc2⟩ := (h.xr way hw).block hm
    exact ne_types hc1 hc2 (by decide) rfl)
  have hlen := h.xl way hw
  refine h.turn hw hs (by simpa using hown) hb (by simp [hlen]) (fun j s1 c1 h1 h2 => ?_) (fun k' j j' s1 s2 g hk' h1 h2 h3 h4 => ?_)
  · by_cases hj : j < (e way).length
    · rw [List.getElem?_append_left hj] at h1
      rw [List.getElem?_append_left (by omega)] at h2
      exact hgo (h.xd way hw j s1 c1 h1 h2)
    · rw [List.getElem?_append_right (by omega)] at h1
      rw [List.getElem?_append_right (by omega)] at h2
      have hj0 : j - (e way).length = 0 := by
        have := (List.getElem?_eq_some_iff.1 h1).1
        simp at this; omega
      rw [hj0] at h1
      rw [show j - (d way).length = 0 by omega] at h2
      simp at h1 h2
      subst h1 h2
      exact hgo ho
  · have hcase : ∀ {j : Nat} {s1 : Sl}, (e way ++ [s])[j]? = some s1 → ((e way)[j]? = some s1) ∨ (j = (e way).length ∧ s1 = s) := by
      intro j s1 h1
      by_cases hj : j < (e way).length
      · rw [List.getElem?_append_left hj] at h1; exact .inl h1
      · rw [List.getElem?_append_right (by omega)] at h1
        have hj0 : j - (e way).length = 0 := by
          have := (List.getElem?_eq_some_iff.1 h1).1
          simp at this; omega
        rw [hj0] at h1
        simp at h1
        exact .inr ⟨by omega, h1.symm⟩
    by_cases hkw : k' = way
    · subst hkw
      rw [upd_same] at h2
      rcases hcase h1 with h5 | ⟨h5, h6⟩
      · rcases hcase h2 with h7 | ⟨h7, h8⟩
        · exact h.ne k' k' j j' s1 s2 g hk' hk' h5 h7 h3 h4
        · subst h8; exact absurd h3 (hf g h4 k' hk' j s1 h5)
      · subst h6
        rcases hcase h2 with h7 | ⟨h7, h8⟩
        · exact absurd h4 (hf g h3 k' hk' j' s2 h7)
        · exact ⟨rfl, by omega⟩
    · rw [upd_other _ _ hkw] at h2
      rcases hcase h1 with h5 | ⟨h5, h6⟩
      · exact h.ne way k' j j' s1 s2 g hw hk' h5 h2 h3 h4
      · subst h6
        exact absurd h4 (hf g h3 k' hk' j' s2 h2)

set_option maxRecDepth 100000 in
set_option maxHeartbeats 4000000 in
theorem send_okx (B bn way : Nat) (hw : way < 2) (r : Nat → Value) (e : Nat → List Sl) (d : Nat → List (List Value)) (v : Value) (c : List Value) (h1c : ∀ u ∈ c, u.oneCell' = true) (hc : c.length ≤ 600) (hl : (e way).length < 64) (w : World) (h : NetAt B w bn r e d) (hv : Reads w v c) :
    Calls Try.prog 29 #[.pointer (some ⟨bn, 0, none⟩), .int .i64 (way : Int), v] w fun e_ w' => e_ = .returned (.tuple #[.bool false, .int .i64 0]) ∧ ∃ r' s, NetAt B w' bn (upd r way r') (upd e way (e way ++ [s])) (upd d way (d way ++ [c])) ∧ StepB B w w' ∧ (∀ v c, OwnAt B w 5 v c → OwnAt B w' 5 v c) ∧ Leaves bn r e (upd r way r') (upd e way (e way ++ [s])) w w' := by
  obtain ⟨i0, hi, hz0, hz1, hz2⟩ := info_parts info68
  obtain ⟨q, n, cc, rfl, hn⟩ : ∃ q n cc, v = .slice q n cc ∧ n = c.length := by
    rcases hv with ⟨q, cap, hv, h2, _⟩ | ⟨b, off, cap, hv, _⟩
    · exact ⟨q, 0, cap, hv, by simp [h2]⟩
    · exact ⟨_, _, _, hv, rfl⟩
  obtain ⟨q1, c1, hr, hc1, hm1⟩ := (h.xr way hw).form
  rw [List.length_map] at hr
  obtain ⟨hcell, hfr⟩ := h.cell hw
  rw [hr] at hcell
  obtain ⟨L, hL⟩ : ∃ L, L = (e way).length := ⟨_, rfl⟩
  rw [← hL] at hcell hr
  have H := Lib.hid h
  have HV := Lib.hid hv
  have HW := Lib.hid hw
  have H1 := Lib.hid h1c
  have HR := Lib.hid hr
  have HC := Lib.hid (show c.length < 1000000 by omega)
  have HL := Lib.hid (show (e way).length < 64 from hl)
  have HRO := Lib.hid ((h.rowOf hw).trans hr)
  have t1 : ((600 : Int) < (n : Int)) = False := by simp; omega
  have t2 : ((64 : Int) ≤ (L : Int)) = False := by simp; omega
  clear h hv hw h1c hr hc hl hc1 hm1 hL hn
  go_enter Try.func29, Try.ntmps29
  go_wp2_with (go_at_call 45; refine (way_ok bn way (r 0) (r 1) HW.out _ H.out.xo).mono ?_; rintro e w' ⟨rfl, rfl⟩)
  have HN := Lib.hid (H.out.same (Step.drew w))
  have HVd := Lib.hid (Reads.same HV.out (Step.drew w))
  have k1 : w.drew.cell? ⟨bn, 1 + way, none⟩ = some (.slice q1 L c1) := hcell
  have HN := Lib.hid (H.out.same (Step.drew w))
  have HVd := Lib.hid (Reads.same HV.out (Step.drew w))
  have k1 : w.drew.cell? ⟨bn, 1 + way, none⟩ = some (.slice q1 L c1) := hcell
  have HN := Lib.hid (H.out.same (Step.drew w))
  have HVd := Lib.hid (Reads.same HV.out (Step.drew w))
  have k1 : w.drew.cell? ⟨bn, 1 + way, none⟩ = some (.slice q1 L c1) := hcell
  refine wp_region_noPanic ?_
  refine wp_region_held_drew (S := fun _ => True) (by kernel_rfl) trivial (fun hHeld => ?_)
  refine wpAnyH_take (i := 0) (v := ?v0_1) rfl (by kernel_rfl) (by kernel_rfl) (by kernel_rfl) (fun _ _ _ h => h) (Or.inl ⟨by rfl, ?y0_1⟩) (by assumption) ?r0_1
  case y0_1 => ((try simp only [List.getElem_toArray, List.getElem_cons_succ, List.getElem_cons_zero]); intro w hSw; (try dsimp only at hSw); go_simp; first | done | with_reducible rfl)
  (try simp only [Act.put, List.getElem_toArray, List.getElem_cons_succ, List.getElem_cons_zero, List.setIfInBounds_toArray, List.set_cons_zero, List.set_cons_succ])
  refine wpAnyH_take (i := 1) (v := ?v1_2) rfl (by kernel_rfl) (by kernel_rfl) (by kernel_rfl) (fun _ _ _ h => h) (Or.inl ⟨by rfl, ?y1_2⟩) (by assumption) ?r1_2
  case y1_2 => ((try simp only [List.getElem_toArray, List.getElem_cons_succ, List.getElem_cons_zero]); intro w hSw; (try dsimp only at hSw); go_simp; first | done | with_reducible rfl)
  (try simp only [Act.put, List.getElem_toArray, List.getElem_cons_succ, List.getElem_cons_zero, List.setIfInBounds_toArray, List.set_cons_zero, List.set_cons_succ])
  refine wpAnyH_take (i := 2) (v := ?v2_3) rfl (by kernel_rfl) (by kernel_rfl) (by kernel_rfl) (fun _ _ _ h => h) (Or.inl ⟨by rfl, ?y2_3⟩) (by assumption) ?r2_3
  case y2_3 => ((try simp only [List.getElem_toArray, List.getElem_cons_succ, List.getElem_cons_zero]); intro w hSw; (try dsimp only at hSw); go_simp; first | done | with_reducible rfl)
  (try simp only [Act.put, List.getElem_toArray, List.getElem_cons_succ, List.getElem_cons_zero, List.setIfInBounds_toArray, List.set_cons_zero, List.set_cons_succ])
  refine wpAnyH_take (i := 4) (v := ?v4_4) rfl (by kernel_rfl) (by kernel_rfl) (by kernel_rfl) (fun _ _ _ h => h) (Or.inl ⟨by rfl, ?y4_4⟩) (by assumption) ?r4_4
  case y4_4 => ((try simp only [List.getElem_toArray, List.getElem_cons_succ, List.getElem_cons_zero]); intro w hSw; (try dsimp only at hSw); go_simp; first | done | with_reducible rfl)
  (try simp only [Act.put, List.getElem_toArray, List.getElem_cons_succ, List.getElem_cons_zero, List.setIfInBounds_toArray, List.set_cons_zero, List.set_cons_succ])
  refine wpAnyH_ready (rs := [3, 5]) (by kernel_rfl) (by simp) ?_
  refine AllReadyH.cons (o := _) rfl (fun K hK => ?_) ?_
  · go_simp
    refine hK.out _ _ trivial (fun hHeld => ?_)
    clear hK K
    (try simp only [Act.put, List.getElem_toArray, List.getElem_cons_succ, List.getElem_cons_zero, List.setIfInBounds_toArray, List.set_cons_zero, List.set_cons_succ])
    refine wpAnyH_ready (rs := [5]) (by kernel_rfl) (by simp) ?_
    refine AllReadyH.cons (o := _) rfl (fun K hK => ?_) AllReadyH.nil
    go_simp
    refine (clone_any (.slice q n cc) c H1.out HC.out _ HVd.out).mono ?_
    rintro e1 w1 ⟨v1, rfl, ho, hs⟩
    obtain ⟨q2, n2, c2, rfl⟩ := ho.slice'
    have HO := Lib.hid ho
    have HN1 := Lib.hid (HN.out.same hs)
    have HS1 := Lib.hid hs
    have kc : w1.cell? ⟨bn, 1 + way, none⟩ = some (.slice q1 L c1) := by have := (HN1.out.cell HW.out).1; rw [HR.out] at this; exact this
    have ka : ∀ o, (w1.alloc o).cell? ⟨bn, 1 + way, none⟩ = some (.slice q1 L c1) := fun o => step_cell (Step.alloc w1 o) kc
    clear ho hs
    (try go_wp2_with fail)
    refine hK.out _ _ trivial (fun hHeld => ?_)
    clear hK K
    (try simp only [Act.put, List.getElem_toArray, List.getElem_cons_succ, List.getElem_cons_zero, List.setIfInBounds_toArray, List.set_cons_zero, List.set_cons_succ])
    refine wpAnyH_ready (rs := [6]) (by kernel_rfl) (by simp) ?_
    refine AllReadyH.cons (o := _) rfl (fun K hK => ?_) AllReadyH.nil
    go_simp
    refine hK.out _ _ trivial (fun hHeld => ?_)
    clear hK K
    (try simp only [Act.put, List.getElem_toArray, List.getElem_cons_succ, List.getElem_cons_zero, List.setIfInBounds_toArray, List.set_cons_zero, List.set_cons_succ])
    refine wpAnyH_ready (rs := [7]) (by kernel_rfl) (by simp) ?_
    refine AllReadyH.cons (o := _) rfl (fun K hK => ?_) AllReadyH.nil
    (try simp only [List.getElem_toArray, List.getElem_cons_succ, List.getElem_cons_zero])
    refine step_push rfl _ _ 90 rfl 68 i0 (.slice none 0 0) 24 Try.underlying90 hi hz0 hz1 hz2 rfl B (.slice q1 L c1) ((e way).map encS) (by rfl) (by have := (HN1.out.same (Step.alloc w1 (.cells #[.slice q2 n2 c2] 68))).xr way HW.out; rw [HR.out] at this; exact this) rfl ⟨w1.heap.size, 0, none⟩ 1 (.slice q2 n2 c2) (by rfl) (cell_new2 rfl) (by simp [Value.oneCell']) (by have := HL.out; simp; omega) (by omega) (Nat.le_trans HN1.out.size (Step.alloc (S := []) _ _).size) ?_
    intro v' w4 hown hst hblk
    obtain ⟨qa, na, ca, rfl⟩ := hown.slice'
    obtain ⟨hE, hSB, hc, hf, hby⟩ := (HN1.out.same (Step.alloc w1 (.cells #[.slice q2 n2 c2] 68))).push HW.out (s := (q2, n2, c2)) (c := c) (OwnAt.low HN.out.size (HO.out.same (Step.alloc _ _))) (fun g hg k hk j s' hs' => by have h1 := (HO.out.block hg).1; obtain ⟨c9, hc9, ho9⟩ := HN.out.elem hk hs'; exact fun h2 => by have := (ho9.block h2).2.1; omega) (by rw [HR.out]; exact hst) hown (by rw [HR.out]; exact hblk)
    rw [HR.out] at hc
    have HE := Lib.hid hE
    have HBY := Lib.hid (fun v c (h9 : OwnAt B w 5 v c) => hby v c (((h9.same (Step.drew w)).same HS1.out).same (Step.alloc _ _)))
    have HSB := Lib.hid ((StepB.of HS1.out).trans ((StepB.of (Step.alloc _ _)).trans hSB))
    have HLV := Lib.hid (show Leaves bn r e (upd r way (.slice qa na ca)) (upd e way (e way ++ [(q2, n2, c2)])) w (w4.setCell ⟨bn, 1 + way, none⟩ (.slice qa na ca)) from leaves_push HW.out HR.out ((Step.drew w).trans HS1.out) hst hblk (fun g hg => (HO.out.block hg).1))
    clear hE hSB hown hst hblk hby
    refine hK.out _ _ trivial (fun hHeld => ?_)
    clear hK K
    (try simp only [Act.put, List.getElem_toArray, List.getElem_cons_succ, List.getElem_cons_zero, List.setIfInBounds_toArray, List.set_cons_zero, List.set_cons_succ])
    refine wpAnyH_take (i := 8) (v := ?v8_5) rfl (by kernel_rfl) (by kernel_rfl) (by kernel_rfl) (fun _ _ _ h => h) (Or.inl ⟨by rfl, ?y8_5⟩) (by assumption) ?r8_5
    case y8_5 => ((try simp only [List.getElem_toArray, List.getElem_cons_succ, List.getElem_cons_zero]); intro w hSw; (try dsimp only at hSw); go_simp; first | done | with_reducible rfl)
    (try simp only [Act.put, List.getElem_toArray, List.getElem_cons_succ, List.getElem_cons_zero, List.setIfInBounds_toArray, List.set_cons_zero, List.set_cons_succ])
    refine wpAnyH_ready (rs := [9]) (by kernel_rfl) (by simp) ?_
    refine AllReadyH.cons (o := _) rfl (fun K hK => ?_) AllReadyH.nil
    go_simp
    refine hK.out _ _ trivial (fun hHeld => ?_)
    clear hK K
    (try simp only [Act.put, List.getElem_toArray, List.getElem_cons_succ, List.getElem_cons_zero, List.setIfInBounds_toArray, List.set_cons_zero, List.set_cons_succ])
    refine wpAnyH_done (by kernel_rfl) ?_ _
    refine NoPanic.normal ?_
    clear hHeld
    go_wp2
    go_ret2
    exact ⟨rfl, _, _, HE.out, (StepB.of (Step.drew _)).trans HSB.out, HBY.out, HLV.out⟩
  refine AllReadyH.cons (o := _) rfl (fun K hK => ?_) ?_
  · go_simp
    refine (clone_any (.slice q n cc) c H1.out HC.out _ HVd.out).mono ?_
    rintro e1 w1 ⟨v1, rfl, ho, hs⟩
    obtain ⟨q2, n2, c2, rfl⟩ := ho.slice'
    have HO := Lib.hid ho
    have HN1 := Lib.hid (HN.out.same hs)
    have HS1 := Lib.hid hs
    have kc : w1.cell? ⟨bn, 1 + way, none⟩ = some (.slice q1 L c1) := by have := (HN1.out.cell HW.out).1; rw [HR.out] at this; exact this
    have ka : ∀ o, (w1.alloc o).cell? ⟨bn, 1 + way, none⟩ = some (.slice q1 L c1) := fun o => step_cell (Step.alloc w1 o) kc
    clear ho hs
    (try go_wp2_with fail)
    refine hK.out _ _ trivial (fun hHeld => ?_)
    clear hK K
    (try simp only [Act.put, List.getElem_toArray, List.getElem_cons_succ, List.getElem_cons_zero, List.setIfInBounds_toArray, List.set_cons_zero, List.set_cons_succ])
    refine wpAnyH_ready (rs := [3, 6]) (by kernel_rfl) (by simp) ?_
    refine AllReadyH.cons (o := _) rfl (fun K hK => ?_) ?_
    · go_simp
      refine hK.out _ _ trivial (fun hHeld => ?_)
      clear hK K
      (try simp only [Act.put, List.getElem_toArray, List.getElem_cons_succ, List.getElem_cons_zero, List.setIfInBounds_toArray, List.set_cons_zero, List.set_cons_succ])
      refine wpAnyH_ready (rs := [6]) (by kernel_rfl) (by simp) ?_
      refine AllReadyH.cons (o := _) rfl (fun K hK => ?_) AllReadyH.nil
      go_simp
      refine hK.out _ _ trivial (fun hHeld => ?_)
      clear hK K
      (try simp only [Act.put, List.getElem_toArray, List.getElem_cons_succ, List.getElem_cons_zero, List.setIfInBounds_toArray, List.set_cons_zero, List.set_cons_succ])
      refine wpAnyH_ready (rs := [7]) (by kernel_rfl) (by simp) ?_
      refine AllReadyH.cons (o := _) rfl (fun K hK => ?_) AllReadyH.nil
      (try simp only [List.getElem_toArray, List.getElem_cons_succ, List.getElem_cons_zero])
      refine step_push rfl _ _ 90 rfl 68 i0 (.slice none 0 0) 24 Try.underlying90 hi hz0 hz1 hz2 rfl B (.slice q1 L c1) ((e way).map encS) (by rfl) (by have := (HN1.out.same (Step.alloc w1 (.cells #[.slice q2 n2 c2] 68))).xr way HW.out; rw [HR.out] at this; exact this) rfl ⟨w1.heap.size, 0, none⟩ 1 (.slice q2 n2 c2) (by rfl) (cell_new2 rfl) (by simp [Value.oneCell']) (by have := HL.out; simp; omega) (by omega) (Nat.le_trans HN1.out.size (Step.alloc (S := []) _ _).size) ?_
      intro v' w4 hown hst hblk
      obtain ⟨qa, na, ca, rfl⟩ := hown.slice'
      obtain ⟨hE, hSB, hc, hf, hby⟩ := (HN1.out.same (Step.alloc w1 (.cells #[.slice q2 n2 c2] 68))).push HW.out (s := (q2, n2, c2)) (c := c) (OwnAt.low HN.out.size (HO.out.same (Step.alloc _ _))) (fun g hg k hk j s' hs' => by have h1 := (HO.out.block hg).1; obtain ⟨c9, hc9, ho9⟩ := HN.out.elem hk hs'; exact fun h2 => by have := (ho9.block h2).2.1; omega) (by rw [HR.out]; exact hst) hown (by rw [HR.out]; exact hblk)
      rw [HR.out] at hc
      have HE := Lib.hid hE
      have HBY := Lib.hid (fun v c (h9 : OwnAt B w 5 v c) => hby v c (((h9.same (Step.drew w)).same HS1.out).same (Step.alloc _ _)))
      have HSB := Lib.hid ((StepB.of HS1.out).trans ((StepB.of (Step.alloc _ _)).trans hSB))
      have HLV := Lib.hid (show Leaves bn r e (upd r way (.slice qa na ca)) (upd e way (e way ++ [(q2, n2, c2)])) w (w4.setCell ⟨bn, 1 + way, none⟩ (.slice qa na ca)) from leaves_push HW.out HR.out ((Step.drew w).trans HS1.out) hst hblk (fun g hg => (HO.out.block hg).1))
      clear hE hSB hown hst hblk hby
      refine hK.out _ _ trivial (fun hHeld => ?_)
      clear hK K
      (try simp only [Act.put, List.getElem_toArray, List.getElem_cons_succ, List.getElem_cons_zero, List.setIfInBounds_toArray, List.set_cons_zero, List.set_cons_succ])
      refine wpAnyH_take (i := 8) (v := ?v8_6) rfl (by kernel_rfl) (by kernel_rfl) (by kernel_rfl) (fun _ _ _ h => h) (Or.inl ⟨by rfl, ?y8_6⟩) (by assumption) ?r8_6
      case y8_6 => ((try simp only [List.getElem_toArray, List.getElem_cons_succ, List.getElem_cons_zero]); intro w hSw; (try dsimp only at hSw); go_simp; first | done | with_reducible rfl)
      (try simp only [Act.put, List.getElem_toArray, List.getElem_cons_succ, List.getElem_cons_zero, List.setIfInBounds_toArray, List.set_cons_zero, List.set_cons_succ])
      refine wpAnyH_ready (rs := [9]) (by kernel_rfl) (by simp) ?_
      refine AllReadyH.cons (o := _) rfl (fun K hK => ?_) AllReadyH.nil
      go_simp
      refine hK.out _ _ trivial (fun hHeld => ?_)
      clear hK K
      (try simp only [Act.put, List.getElem_toArray, List.getElem_cons_succ, List.getElem_cons_zero, List.setIfInBounds_toArray, List.set_cons_zero, List.set_cons_succ])
      refine wpAnyH_done (by kernel_rfl) ?_ _
      refine NoPanic.normal ?_
      clear hHeld
      go_wp2
      go_ret2
      exact ⟨rfl, _, _, HE.out, (StepB.of (Step.drew _)).trans HSB.out, HBY.out, HLV.out⟩
    refine AllReadyH.cons (o := _) rfl (fun K hK => ?_) ?_
    · go_simp
      refine hK.out _ _ trivial (fun hHeld => ?_)
      clear hK K
      (try simp only [Act.put, List.getElem_toArray, List.getElem_cons_succ, List.getElem_cons_zero, List.setIfInBounds_toArray, List.set_cons_zero, List.set_cons_succ])
      refine wpAnyH_ready (rs := [3]) (by kernel_rfl) (by simp) ?_
      refine AllReadyH.cons (o := _) rfl (fun K hK => ?_) AllReadyH.nil
      go_simp
      refine hK.out _ _ trivial (fun hHeld => ?_)
      clear hK K
      (try simp only [Act.put, List.getElem_toArray, List.getElem_cons_succ, List.getElem_cons_zero, List.setIfInBounds_toArray, List.set_cons_zero, List.set_cons_succ])
      refine wpAnyH_ready (rs := [7]) (by kernel_rfl) (by simp) ?_
      refine AllReadyH.cons (o := _) rfl (fun K hK => ?_) AllReadyH.nil
      (try simp only [List.getElem_toArray, List.getElem_cons_succ, List.getElem_cons_zero])
      refine step_push rfl _ _ 90 rfl 68 i0 (.slice none 0 0) 24 Try.underlying90 hi hz0 hz1 hz2 rfl B (.slice q1 L c1) ((e way).map encS) (by rfl) (by have := (HN1.out.same (Step.alloc w1 (.cells #[.slice q2 n2 c2] 68))).xr way HW.out; rw [HR.out] at this; exact this) rfl ⟨w1.heap.size, 0, none⟩ 1 (.slice q2 n2 c2) (by rfl) (cell_new2 rfl) (by simp [Value.oneCell']) (by have := HL.out; simp; omega) (by omega) (Nat.le_trans HN1.out.size (Step.alloc (S := []) _ _).size) ?_
      intro v' w4 hown hst hblk
      obtain ⟨qa, na, ca, rfl⟩ := hown.slice'
      obtain ⟨hE, hSB, hc, hf, hby⟩ := (HN1.out.same (Step.alloc w1 (.cells #[.slice q2 n2 c2] 68))).push HW.out (s := (q2, n2, c2)) (c := c) (OwnAt.low HN.out.size (HO.out.same (Step.alloc _ _))) (fun g hg k hk j s' hs' => by have h1 := (HO.out.block hg).1; obtain ⟨c9, hc9, ho9⟩ := HN.out.elem hk hs'; exact fun h2 => by have := (ho9.block h2).2.1; omega) (by rw [HR.out]; exact hst) hown (by rw [HR.out]; exact hblk)
      rw [HR.out] at hc
      have HE := Lib.hid hE
      have HBY := Lib.hid (fun v c (h9 : OwnAt B w 5 v c) => hby v c (((h9.same (Step.drew w)).same HS1.out).same (Step.alloc _ _)))
      have HSB := Lib.hid ((StepB.of HS1.out).trans ((StepB.of (Step.alloc _ _)).trans hSB))
      have HLV := Lib.hid (show Leaves bn r e (upd r way (.slice qa na ca)) (upd e way (e way ++ [(q2, n2, c2)])) w (w4.setCell ⟨bn, 1 + way, none⟩ (.slice qa na ca)) from leaves_push HW.out HR.out ((Step.drew w).trans HS1.out) hst hblk (fun g hg => (HO.out.block hg).1))
      clear hE hSB hown hst hblk hby
      refine hK.out _ _ trivial (fun hHeld => ?_)
      clear hK K
      (try simp only [Act.put, List.getElem_toArray, List.getElem_cons_succ, List.getElem_cons_zero, List.setIfInBounds_toArray, List.set_cons_zero, List.set_cons_succ])
      refine wpAnyH_take (i := 8) (v := ?v8_7) rfl (by kernel_rfl) (by kernel_rfl) (by kernel_rfl) (fun _ _ _ h => h) (Or.inl ⟨by rfl, ?y8_7⟩) (by assumption) ?r8_7
      case y8_7 => ((try simp only [List.getElem_toArray, List.getElem_cons_succ, List.getElem_cons_zero]); intro w hSw; (try dsimp only at hSw); go_simp; first | done | with_reducible rfl)
      (try simp only [Act.put, List.getElem_toArray, List.getElem_cons_succ, List.getElem_cons_zero, List.setIfInBounds_toArray, List.set_cons_zero, List.set_cons_succ])
      refine wpAnyH_ready (rs := [9]) (by kernel_rfl) (by simp) ?_
      refine AllReadyH.cons (o := _) rfl (fun K hK => ?_) AllReadyH.nil
      go_simp
      refine hK.out _ _ trivial (fun hHeld => ?_)
      clear hK K
      (try simp only [Act.put, List.getElem_toArray, List.getElem_cons_succ, List.getElem_cons_zero, List.setIfInBounds_toArray, List.set_cons_zero, List.set_cons_succ])
      refine wpAnyH_done (by kernel_rfl) ?_ _
      refine NoPanic.normal ?_
      clear hHeld
      go_wp2
      go_ret2
      exact ⟨rfl, _, _, HE.out, (StepB.of (Step.drew _)).trans HSB.out, HBY.out, HLV.out⟩
    exact AllReadyH.nil
  exact AllReadyH.nil

theorem send_ok (B bn way : Nat) (hw : way < 2) (r : Nat → Value) (e : Nat → List Sl) (d : Nat → List (List Value)) (v : Value) (c : List Value) (h1c : ∀ u ∈ c, u.oneCell' = true) (hc : c.length ≤ 600) (hl : (e way).length < 64) (w : World) (h : NetAt B w bn r e d) (hv : Reads w v c) :
    Calls Try.prog 29 #[.pointer (some ⟨bn, 0, none⟩), .int .i64 (way : Int), v] w fun e_ w' => e_ = .returned (.tuple #[.bool false, .int .i64 0]) ∧ ∃ r' s, NetAt B w' bn (upd r way r') (upd e way (e way ++ [s])) (upd d way (d way ++ [c])) ∧ StepB B w w' ∧ (∀ v c, OwnAt B w 5 v c → OwnAt B w' 5 v c) := by
  refine (send_okx B bn way hw r e d v c h1c hc hl w h hv).mono ?_
  rintro e1 w' ⟨rfl, r', s, hN, hs, hby, _⟩
  exact ⟨rfl, r', s, hN, hs, hby⟩
end Go.Proofs.Ytnomnhlfenhjdaa
