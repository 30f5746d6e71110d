/- Maps whose keys are numbers of 32 bits, whatever their elements: as lists of pairs. No statement is proved here; nothing is assumed. -/
import Derived.Test.YtbainekfbonbjaaBaseB
import Derived.Test.YtbainekfbonbjaaChecked
import Derived.Maps.Own
import Derived.Maps.Views
import Derived.Maps.OwnSet
import Derived.Maps.OwnIn
import Derived.Maps.Range
import Derived.Maps.RangeWalk
namespace Go.Proofs.Ytbainekfbonbjaa
open Go.RowKit Go.Maps
set_option linter.unusedVariables false

/-- An element reads as itself. -/
def asHeld (v : Value) : Option (DataW Value × List MemPlace) := some (.held v, [])
theorem law22 : Keyed Try.prog 22 := int_keyed Try.underlying22
theorem wf32 {k : Nat} (h : k < 4294967296) : (Lit.int .u32 (k : Int)).wf = true := WalkArith.wf_u32 (by omega)
theorem key32 {k : Nat} (h : k < 4294967296) : keyOf Try.prog 22 (.int .u32 (k : Int)) = some (.int .u32 (k : Int)) := keyOf_int_mk Try.underlying22 (wf32 h)

abbrev Ents := List (Nat × Value)
def hasE (M : Ents) (k : Nat) : Bool := M.any fun p => p.1 == k
def getE (M : Ents) (k : Nat) (z : Value) : Value := ((M.find? fun p => p.1 == k).map Prod.snd).getD z
def delE (M : Ents) (k : Nat) : Ents := M.filter fun p => !(p.1 == k)
def putE (M : Ents) (k : Nat) (v : Value) : Ents := delE M k ++ [(k, v)]

structure Fits (D : DataW Value) (M : Ents) : Prop where
  td : Tidy D
  nd : (M.map Prod.fst).Nodup
  kb : ∀ p ∈ M, p.1 < 4294967296
  hs : ∀ k : Nat, k < 4294967296 → has D (.int .u32 (k : Int)) = hasE M k
  at_ : ∀ p ∈ M, ∀ z, D.atKey (.int .u32 (p.1 : Int)) z = .held p.2
  sz : Maps.size D = M.length

theorem hasE_iff {M : Ents} {k : Nat} : hasE M k = true ↔ ∃ v, (k, v) ∈ M := by
  unfold hasE
  rw [List.any_eq_true]
  constructor
  · rintro ⟨p, hp, h⟩
    have h2 : p.1 = k := by simpa using h
    exact ⟨p.2, by rw [← h2]; exact hp⟩
  · rintro ⟨v, hv⟩
    exact ⟨_, hv, by simp⟩
theorem hasE_del {M : Ents} {k j : Nat} : hasE (delE M k) j = (hasE M j && !(j == k)) := by
  rw [Bool.eq_iff_iff]
  simp only [hasE_iff, Bool.and_eq_true, Bool.not_eq_true', beq_eq_false_iff_ne, delE, List.mem_filter]
  constructor
  · rintro ⟨v, h1, h2⟩
    exact ⟨⟨v, h1⟩, by simpa using h2⟩
  · rintro ⟨⟨v, h1⟩, h2⟩
    exact ⟨v, h1, by simpa using h2⟩
theorem getE_mem {M : Ents} (hn : (M.map Prod.fst).Nodup) {p : Nat × Value} (h : p ∈ M) (z : Value) : getE M p.1 z = p.2 := by
  unfold getE
  have hs : ∃ q, M.find? (fun q => q.1 == p.1) = some q := by
    cases hf : M.find? (fun q => q.1 == p.1) with
    | some q => exact ⟨q, rfl⟩
    | none =>
      have := List.find?_eq_none.1 hf p h
      simp at this
  obtain ⟨q, hq⟩ := hs
  have h1 := List.mem_of_find?_eq_some hq
  have h2 : q.1 = p.1 := by simpa using List.find?_some hq
  have h3 : q = p := by
    obtain ⟨i, hi⟩ := List.mem_iff_getElem?.1 h1
    obtain ⟨j, hj⟩ := List.mem_iff_getElem?.1 h
    have hi' : (M.map Prod.fst)[i]? = some q.1 := by rw [List.getElem?_map, hi]; rfl
    have hj' : (M.map Prod.fst)[j]? = some q.1 := by rw [List.getElem?_map, hj, h2]; rfl
    have hil : i < (M.map Prod.fst).length := (List.getElem?_eq_some_iff.1 hi').1
    have : i = j := (List.getElem?_inj hil hn).1 (hi'.trans hj'.symm)
    subst this
    rw [hi] at hj
    exact Option.some.inj hj
  rw [hq, h3]; rfl
theorem getE_none {M : Ents} {k : Nat} (h : hasE M k = false) (z : Value) : getE M k z = z := by
  unfold getE
  have : M.find? (fun p => p.1 == k) = none := List.find?_eq_none.2 fun p hp hc => by
    have : hasE M k = true := hasE_iff.2 ⟨p.2, by have h2 : p.1 = k := by simpa using hc
                                                  rw [← h2]; exact hp⟩
    rw [h] at this; cases this
  rw [this]; rfl
theorem nodup_del {M : Ents} (hn : (M.map Prod.fst).Nodup) (k : Nat) : ((delE M k).map Prod.fst).Nodup := hn.sublist (List.Sublist.map _ List.filter_sublist)
theorem nodup_put {M : Ents} (hn : (M.map Prod.fst).Nodup) (k : Nat) (v : Value) : ((putE M k v).map Prod.fst).Nodup := by
  unfold putE
  rw [List.map_append, List.nodup_append]
  refine ⟨nodup_del hn k, by simp, fun a ha b hb e => ?_⟩
  simp at hb
  subst e hb
  obtain ⟨p, hp, h2⟩ := List.mem_map.1 ha
  unfold delE at hp
  have := (List.mem_filter.1 hp).2
  simp [h2] at this
theorem len_del {M : Ents} (hn : (M.map Prod.fst).Nodup) (k : Nat) : (delE M k).length + (if hasE M k then 1 else 0) = M.length := by
  induction M with
  | nil => rfl
  | cons p t ih =>
    rw [List.map_cons, List.nodup_cons] at hn
    have ih := ih hn.2
    by_cases h : p.1 = k
    · have hno : hasE t k = false := by
        rw [Bool.eq_false_iff]
        intro hc
        obtain ⟨v, hv⟩ := hasE_iff.1 hc
        exact hn.1 (List.mem_map.2 ⟨_, hv, h.symm⟩)
      have h1 : delE (p :: t) k = delE t k := by unfold delE; rw [List.filter_cons, if_neg (by simp [h])]
      have h2 : hasE (p :: t) k = true := by unfold hasE; simp [h]
      rw [h1, h2, if_pos rfl, List.length_cons]
      rw [hno] at ih
      simp at ih
      omega
    · have h1 : delE (p :: t) k = p :: delE t k := by unfold delE; rw [List.filter_cons, if_pos (by simpa using h)]
      have h2 : hasE (p :: t) k = hasE t k := by unfold hasE; simp [h]
      rw [h1, h2, List.length_cons, List.length_cons]
      omega

section
variable {D : DataW Value} {M : Ents}
theorem Fits.nil : Fits (.map []) [] := ⟨tidy_empty, by simp, by simp, fun k _ => rfl, by simp, rfl⟩
theorem Fits.del (h : Fits D M) {k : Nat} (hk : k < 4294967296) : Fits (D.del (.int .u32 (k : Int))) (delE M k) := by
  refine ⟨h.td.del _, nodup_del h.nd k, fun p hp => h.kb p (List.mem_filter.1 hp).1, fun j hj => ?_, fun p hp z => ?_, ?_⟩
  · rw [hasE_del]
    by_cases e : j = k
    · subst e; rw [has_del_same]; simp
    · rw [has_del_other (by simp; omega), h.hs j hj]; simp [e]
  · unfold delE at hp
    have h2 := List.mem_filter.1 hp
    have hne : p.1 ≠ k := by simpa using h2.2
    rw [atKey_del_other (by simp; omega), h.at_ p h2.1]
  · have h1 := size_del (k := .int .u32 (k : Int)) h.td
    have h2 := len_del h.nd k
    rw [h.hs k hk] at h1
    have := h.sz
    omega
theorem Fits.put (h : Fits D M) {k : Nat} (hk : k < 4294967296) (v : Value) : Fits (D.put (.int .u32 (k : Int)) (.held v)) (putE M k v) := by
  have hkl : WideAt.IsKeyLit (.int .u32 (k : Int)) := law22.key (key32 hk)
  refine ⟨h.td.put hkl _, nodup_put h.nd k v, fun p hp => ?_, fun j hj => ?_, fun p hp z => ?_, ?_⟩
  · rcases List.mem_append.1 hp with hp | hp
    · exact h.kb p (List.mem_filter.1 hp).1
    · simp at hp; subst hp; exact hk
  · have hE : hasE (putE M k v) j = (hasE (delE M k) j || (k == j)) := by unfold putE hasE; rw [List.any_append]; simp
    rw [hE, hasE_del]
    by_cases e : j = k
    · subst e; rw [has_put_same h.td.isMap hkl]; simp
    · rw [has_put_other (by simp; omega), h.hs j hj]
      have e1 : (j == k) = false := by simpa using e
      have e2 : (k == j) = false := by simpa using fun c => e (Eq.symm c)
      rw [e1, e2]; simp
  · rcases List.mem_append.1 hp with hp | hp
    · unfold delE at hp
      have h2 := List.mem_filter.1 hp
      have hne : p.1 ≠ k := by simpa using h2.2
      rw [atKey_put_other (by simp; omega), h.at_ p h2.1]
    · simp at hp; subst hp; exact atKey_put_same h.td.isMap hkl _ _
  · rw [size_put h.td, h.hs k hk, h.sz]
    have h2 := len_del h.nd k
    unfold putE
    rw [List.length_append]
    split <;> simp_all <;> omega
end

/-- Block b is a map that has M. -/
def MapV (W : World) (b : Nat) (M : Ents) : Prop := ∃ D n, W.ownsMap Try.prog 22 asHeld b n D ∧ n ≤ M.length ∧ Fits D M
section
variable {W W' : World} {b : Nat} {M : Ents} {t e : TypeId} {z : Value}
theorem MapV.made (w : World) : MapV (w.alloc (.map #[] 0)) w.heap.size [] := ⟨.map [], 0, World.ownsMap_made _ _ _ _, Nat.le_refl _, Fits.nil⟩
theorem MapV.keep {S : List Nat} (h : MapV W b M) (hs : Step S W W') (hm : b ∉ S) : MapV W' b M := by
  obtain ⟨D, n, ⟨es, clock, hb, F, h1, h2⟩, hn, hD⟩ := h
  exact ⟨D, n, ⟨es, clock, obj_step hb hs hm, F, h1, h2⟩, hn, hD⟩
theorem MapV.calm {B : Nat} (h : MapV W b M) (hc : Calm B W W') : MapV W' b M := by
  obtain ⟨D, n, ⟨es, clock, hb, F, h1, h2⟩, hn, hD⟩ := h
  exact ⟨D, n, ⟨es, clock, obj_calm hb hc rfl, F, h1, h2⟩, hn, hD⟩
theorem MapV.block (h : MapV W b M) : ∃ es clock, W.heap[b]? = some (.map es clock) := by
  obtain ⟨D, n, ⟨es, clock, hb, _⟩, _⟩ := h
  exact ⟨es, clock, hb⟩
theorem own_tight {n : Nat} {D : DataW Value} (h : W.ownsMap Try.prog 22 asHeld b n D) : W.ownsMap Try.prog 22 asHeld b (Maps.size D) D := by
  obtain ⟨es, clock, hb, F, h1, rfl⟩ := h
  exact ⟨es, clock, hb, F, by rw [size_eq, length_sorted]; simp, rfl⟩
theorem asHeld_inj {v : Value} {d : DataW Value} {ps : List MemPlace} (h : asHeld v = some (d, ps)) : d = .held v := by cases h; rfl
theorem Fits.get {D : DataW Value} (hD : Fits D M) {k : Nat} (hk : k < 4294967296) (z : Value) : D.atKey (.int .u32 (k : Int)) (.held z) = .held (getE M k z) := by
  by_cases hh : hasE M k = true
  · obtain ⟨v, hv⟩ := hasE_iff.1 hh
    rw [hD.at_ _ hv, getE_mem hD.nd hv]
  · have hh2 : hasE M k = false := by simpa using hh
    rw [getE_none hh2, atKey_of_not_has (by rw [hD.hs k hk, hh2])]
set_option maxRecDepth 100000 in
theorem MapV.look (h : MapV W b M) (ht : Try.prog.underlying t = some (.map 22 e)) (hz : (zeroValue e).run Try.prog W = .ok z W) {k : Nat} (hk : k < 4294967296) : (Instr.lookup t (.map (some b)) (.int .u32 (k : Int)) false).run Try.prog W = .ok (getE M k z) W := by
  obtain ⟨D, n, ho, hn, hD⟩ := h
  obtain ⟨v, ps, hrun, hv⟩ := ho.lookup law22 ht hz (show asHeld z = some (.held z, []) from rfl) (key32 hk)
  have h2 := asHeld_inj hv
  rw [hD.get hk] at h2
  injection h2 with h2
  rw [hrun, h2]
set_option maxRecDepth 100000 in
theorem MapV.look_ok (h : MapV W b M) (ht : Try.prog.underlying t = some (.map 22 e)) (hz : (zeroValue e).run Try.prog W = .ok z W) {k : Nat} (hk : k < 4294967296) : (Instr.lookup t (.map (some b)) (.int .u32 (k : Int)) true).run Try.prog W = .ok (.tuple #[getE M k z, .bool (hasE M k)]) W := by
  obtain ⟨D, n, ho, hn, hD⟩ := h
  obtain ⟨v, ps, hrun, hv⟩ := ho.look_ok law22 ht hz (show asHeld z = some (.held z, []) from rfl) (key32 hk)
  have h2 := asHeld_inj hv
  rw [hD.get hk] at h2
  injection h2 with h2
  rw [hrun, h2, hD.hs k hk]
theorem MapV.len (h : MapV W b M) (ht : Try.prog.underlying t = some (.map 22 e)) (ty : TypeId) : (Builtin.len_ #[t] ty #[.map (some b)]).run Try.prog W = .ok (.int .i64 (M.length : Int)) W := by
  obtain ⟨D, n, ho, hn, hD⟩ := h
  rw [ho.len ht, hD.sz]
theorem MapV.turned {M' : Ents} {D' : DataW Value} {n : Nat} (h : MapV W b M) (ho' : W'.ownsMap Try.prog 22 asHeld b n D') (hF : Fits D' M') (hg : W.grownBy W' (some b)) : MapV W' b M' ∧ Step [b] W W' := by
  obtain ⟨es, clock, hb⟩ := h.block
  refine ⟨⟨D', _, own_tight ho', by rw [hF.sz]; exact Nat.le_refl _, hF⟩, Step.grown hg (fun j hj => ?_)⟩
  cases hj
  exact ⟨.inl (by simp), fun o ho2 => by rw [hb] at ho2; cases ho2; rfl⟩
set_option maxRecDepth 100000 in
theorem MapV.put (h : MapV W b M) (ht : Try.prog.underlying t = some (.map 22 e)) (hl : M.length < 1000000) {k : Nat} (hk : k < 4294967296) (v : Value) :
    ∃ W', (Instr.mapUpdate t (.map (some b)) (.int .u32 (k : Int)) v).run Try.prog W = .ok () W' ∧ MapV W' b (putE M k v) ∧ Step [b] W W' := by
  have h0 := h
  obtain ⟨D, n, ho, hn, hD⟩ := h
  obtain ⟨W', hrun, ho', hg⟩ := ho.update law22 ht (show n < maxLen by unfold maxLen; omega) (key32 hk) (show asHeld v = some (.held v, []) from rfl)
  exact ⟨W', hrun, h0.turned ho' (hD.put hk v) hg⟩
set_option maxRecDepth 100000 in
theorem MapV.drop (h : MapV W b M) (ht : Try.prog.underlying t = some (.map 22 e)) {k : Nat} (hk : k < 4294967296) (ty : TypeId) :
    ∃ W', (Builtin.delete_ #[t, 22] ty #[.map (some b), .int .u32 (k : Int)]).run Try.prog W = .ok (.tuple #[]) W' ∧ MapV W' b (delE M k) ∧ Step [b] W W' := by
  have h0 := h
  obtain ⟨D, n, ho, hn, hD⟩ := h
  obtain ⟨W', hrun, ho', hg⟩ := ho.drop law22 ht (key32 hk) ty
  exact ⟨W', hrun, h0.turned ho' (hD.del hk) hg.grown⟩
end
end Go.Proofs.Ytbainekfbonbjaa
