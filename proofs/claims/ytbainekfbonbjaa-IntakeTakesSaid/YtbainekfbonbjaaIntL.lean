/- intake, plain: what is told of a mask that was told; the law of what is kept when each number's payload is its own; sets of numbers in maps. No statement is proved here; nothing is assumed. -/
import Derived.Test.YtbainekfbonbjaaPay
import Derived.Test.YtbainekfbonbjaaSeqI
namespace Go.Proofs.Ytbainekfbonbjaa
open Go.RowKit Go.Shelf
set_option linter.unusedVariables false

theorem bitsSum_inj (ack : Nat) (q q' : Nat → Bool) : ∀ k, bitsSum ack ((List.range' (ack + 1) k).filter q) = bitsSum ack ((List.range' (ack + 1) k).filter q') → ∀ x ∈ List.range' (ack + 1) k, q x = q' x
  | 0, _, x, hx => by simp at hx
  | k + 1, h, x, hx => by
    have hlt : ∀ r : Nat → Bool, bitsSum ack ((List.range' (ack + 1) k).filter r) < 2 ^ k := fun r => by
      have := bitsSum_lt ack ((List.range' (ack + 1) k).filter r) (ack + k + 1) ((range'_lt _ _).filter _) (fun y hy => by
        have := range'_mem (List.mem_filter.1 hy).1
        omega)
      rwa [show ack + k + 1 - ack - 1 = k from by omega] at this
    have h1 := hlt q
    have h2 := hlt q'
    rw [List.range'_concat, Nat.one_mul] at h hx
    simp only [List.filter_append, List.filter_cons, List.filter_nil] at h
    have hk : ack + 1 + k - ack - 1 = k := by omega
    have hs : q (ack + 1 + k) = q' (ack + 1 + k) ∧ bitsSum ack ((List.range' (ack + 1) k).filter q) = bitsSum ack ((List.range' (ack + 1) k).filter q') := by
      cases e1 : q (ack + 1 + k) <;> cases e2 : q' (ack + 1 + k) <;> simp only [e1, e2, if_true, if_false, Bool.false_eq_true, List.append_nil, bitsSum_snoc, hk] at h
      · exact ⟨rfl, h⟩
      · omega
      · omega
      · exact ⟨rfl, by omega⟩
    rcases List.mem_append.1 hx with hx | hx
    · exact bitsSum_inj ack q q' k hs.2 x hx
    · simp at hx; subst hx; exact hs.1
/-- What a mask tells is what it was made of. -/
theorem toldL_maskOf (ack : Nat) (q : Nat → Bool) : toldL ack (maskOf ack q) = (List.range' (ack + 1) (behindLen ack)).filter q := by
  unfold toldL
  refine List.filter_congr fun x hx => ?_
  refine bitsSum_inj ack (tells ack (maskOf ack q)) q (behindLen ack) ?_ x hx
  rw [bits_mod]
  refine Nat.mod_eq_of_lt ?_
  have := bitsSum_lt ack ((List.range' (ack + 1) (behindLen ack)).filter q) (ack + behindLen ack + 1) ((range'_lt _ _).filter _) (fun y hy => by
    have := range'_mem (List.mem_filter.1 hy).1
    omega)
  rwa [show ack + behindLen ack + 1 - ack - 1 = behindLen ack from by omega] at this

/-- What is kept: each number's own payload, above the floor and near it. -/
structure Law7 (lim F : Nat) (f : Kept7) : Prop where
  le : F ≤ lim
  own : ∀ n p, f n = some p → p = payN n ∧ F < n ∧ n < F + 16 ∧ n < lim
theorem Law7.start (lim : Nat) : Law7 lim 0 (fun _ => none) := ⟨by omega, fun n p h => by cases h⟩
def told13 (F : Nat) (f : Kept7) : List Nat := toldL F (toldM F f)
theorem told13_mem {lim F : Nat} {f : Kept7} (h : Law7 lim F f) (hl : lim < 1000) (k : Nat) : k ∈ told13 F f ↔ (f k).isSome = true := by
  unfold told13 toldM
  rw [toldL_maskOf, List.mem_filter]
  constructor
  · exact fun h => h.2
  · intro hk
    obtain ⟨p, hp⟩ := Option.isSome_iff_exists.1 hk
    have h1 := h.own k p hp
    refine ⟨List.mem_range'_1.2 ?_, hk⟩
    have := h.le
    unfold behindLen
    omega
theorem told13_nodup (F : Nat) (f : Kept7) : (told13 F f).Nodup := by
  unfold told13
  rw [show toldM F f = maskOf F (fun k => (f k).isSome) from rfl, toldL_maskOf]
  exact ((range'_lt (F + 1) (behindLen F)).imp (fun h => Nat.ne_of_lt h)).filter _
theorem toldM_lt (F : Nat) (f : Kept7) : toldM F f < 4294967296 := maskOf_lt _ _
def sumP (l : List Nat) : Nat := (l.map fun m => (payN m).length).sum
theorem sumP_snoc (l : List Nat) (x : Nat) : sumP (l ++ [x]) = sumP l + (payN x).length := by simp [sumP]
theorem Law7.sum {lim F : Nat} {f : Kept7} (h : Law7 lim F f) (l : List Nat) (hl : ∀ k ∈ l, (f k).isSome = true) : sumK f l = sumP l := by
  unfold sumK sumP
  congr 1
  refine List.map_congr_left fun k hk => ?_
  obtain ⟨p, hp⟩ := Option.isSome_iff_exists.1 (hl k hk)
  rw [hp, (h.own k p hp).1]; rfl
theorem sumP_le : ∀ l : List Nat, sumP l ≤ 8 * l.length
  | [] => by simp [sumP]
  | a :: t => by
    have ih := sumP_le t
    have h1 := payN_len a
    have : sumP (a :: t) = (payN a).length + sumP t := by simp [sumP]
    rw [this, List.length_cons]
    omega
/-- The keys of what is kept are what is told. -/
theorem keys_told {lim B F : Nat} {f : Kept7} {W : World} {bi bm : Nat} {M : Ents} (h : Law7 lim F f) (hl : lim < 1000) (hI : IntM B W bi bm F M f) : (M.map Prod.fst).Perm (told13 F f) :=
  perm_nodup hI.r.nd (told13_nodup F f) fun k => by
    rw [told13_mem h hl, ← hI.has k, hasE_iff]
    constructor
    · intro hk; obtain ⟨p, hp, rfl⟩ := List.mem_map.1 hk; exact ⟨p.2, hp⟩
    · rintro ⟨v, hv⟩; exact List.mem_map.2 ⟨_, hv, rfl⟩
theorem told13_bound {lim F : Nat} {f : Kept7} (h : Law7 lim F f) (hl : lim < 1000) : (told13 F f).length ≤ 32 := toldL_len _ _
theorem behind7_some {F : Nat} {f : Kept7} {j k : Nat} {p : List Nat} (h : behind7 F f j k = some p) : f k = some p ∧ ¬ (F ≤ k ∧ k < F + j) := by
  rw [behind7_at] at h
  split at h
  · cases h
  · rename_i hn; exact ⟨h, hn⟩
/-- A number is taken. -/
theorem Law7.taken {lim F n : Nat} {f : Kept7} {L : List (List Nat)} (h : Law7 lim F f) (h1 : F ≤ n) (h2 : n < F + 16) (hn : n < lim) (hd : Drained F (setK f n (some (payN n))) L) :
    Law7 lim (F + L.length) (behind7 F (setK f n (some (payN n))) L.length) ∧
    (∀ k, (k < F + L.length ∨ (behind7 F (setK f n (some (payN n))) L.length k).isSome = true) ↔ (k = n ∨ k < F ∨ (f k).isSome = true)) ∧
    (∀ (j : Nat) p, L[j]? = some p → p = payN (F + j)) := by
  have hset : ∀ k p, setK f n (some (payN n)) k = some p → p = payN k ∧ F ≤ k ∧ k < F + 16 ∧ k < lim ∧ (k = n ∨ (f k).isSome = true) := fun k p hp => by
    by_cases e : k = n
    · subst e; rw [setK_same] at hp; cases hp; exact ⟨rfl, h1, h2, hn, .inl rfl⟩
    · rw [setK_other _ _ e] at hp
      have := h.own k p hp
      exact ⟨this.1, by omega, this.2.2.1, this.2.2.2, .inr (by rw [hp]; rfl)⟩
  have hin : ∀ j, j < L.length → ∃ p, setK f n (some (payN n)) (F + j) = some p := fun j hj => ⟨_, hd.1 j _ (List.getElem?_eq_getElem hj)⟩
  refine ⟨⟨?_, fun k p hp => ?_⟩, fun k => ?_, fun j p hp => ?_⟩
  · by_cases h0 : L.length = 0
    · rw [h0]; have := h.le; omega
    · obtain ⟨p, hp⟩ := hin (L.length - 1) (by omega)
      have := (hset _ _ hp).2.2.2.1
      omega
  · obtain ⟨hp1, hp2⟩ := behind7_some hp
    have h3 := hset k p hp1
    have hne : k ≠ F + L.length := fun e => by rw [e, hd.2] at hp1; cases hp1
    exact ⟨h3.1, by omega, by omega, h3.2.2.2.1⟩
  · constructor
    · rintro (hk | hk)
      · by_cases hkF : k < F
        · exact .inr (.inl hkF)
        · obtain ⟨p, hp⟩ := hin (k - F) (by omega)
          rw [show F + (k - F) = k by omega] at hp
          rcases (hset k p hp).2.2.2.2 with e | e
          · exact .inl e
          · exact .inr (.inr e)
      · obtain ⟨p, hp⟩ := Option.isSome_iff_exists.1 hk
        rcases (hset k p (behind7_some hp).1).2.2.2.2 with e | e
        · exact .inl e
        · exact .inr (.inr e)
    · intro hk
      by_cases hlt : k < F + L.length
      · exact .inl hlt
      · right
        rw [behind7_at, if_neg (by omega)]
        by_cases e : k = n
        · subst e; rw [setK_same]; rfl
        · rw [setK_other _ _ e]
          rcases hk with hk | hk | hk
          · exact absurd hk e
          · omega
          · exact hk
  · exact (hset _ _ (hd.1 j p hp)).1

theorem len_below {l : List Nat} (hn : l.Nodup) {N : Nat} (h : ∀ x ∈ l, x < N) : l.length ≤ N := by
  have hp : l.Perm ((List.range N).filter fun x => decide (x ∈ l)) := perm_nodup hn (List.nodup_range.filter _) fun k => by
    rw [List.mem_filter, List.mem_range]
    simp
    exact h k
  rw [hp.length_eq]
  have := List.length_filter_le (fun x => decide (x ∈ l)) (List.range N)
  simpa using this
/-! ### A set of numbers: a map whose elements are 1 -/
def one64 : Value := .int .i64 1
def MapS (W : World) (b : Nat) (P : Nat → Prop) : Prop := ∃ M, MapV W b M ∧ (∀ p ∈ M, p.2 = one64) ∧ ∀ k, k ∈ M.map Prod.fst ↔ P k
section
variable {W W' : World} {b : Nat} {P Q : Nat → Prop}
theorem MapS.congr (h : MapS W b P) (hq : ∀ k, P k ↔ Q k) : MapS W b Q := by
  obtain ⟨M, h1, h2, h3⟩ := h
  exact ⟨M, h1, h2, fun k => (h3 k).trans (hq k)⟩
theorem MapS.made (w : World) : MapS (w.alloc (.map #[] 0)) w.heap.size (fun _ => False) := ⟨[], MapV.made w, by simp, by simp⟩
theorem MapS.keep {S : List Nat} (h : MapS W b P) (hs : Step S W W') (hm : b ∉ S) : MapS W' b P := by
  obtain ⟨M, h1, h2⟩ := h; exact ⟨M, h1.keep hs hm, h2⟩
theorem MapS.calm {B : Nat} (h : MapS W b P) (hc : Calm B W W') : MapS W' b P := by
  obtain ⟨M, h1, h2⟩ := h; exact ⟨M, h1.calm hc, h2⟩
theorem MapS.block (h : MapS W b P) : ∃ es clock, W.heap[b]? = some (.map es clock) := by obtain ⟨M, h1, _⟩ := h; exact h1.block
theorem MapS.put (h : MapS W b P) {t e : TypeId} (ht : Try.prog.underlying t = some (.map 22 e)) (N : Nat) (hN : N < 1000) (hP : ∀ k, P k → k < N) {k : Nat} (hk : k < 4294967296) :
    ∃ W', (Instr.mapUpdate t (.map (some b)) (.int .u32 (k : Int)) one64).run Try.prog W = .ok () W' ∧ MapS W' b (fun j => j = k ∨ P j) ∧ Step [b] W W' := by
  obtain ⟨M, h1, h2, h3⟩ := h
  have hl : M.length ≤ N := by
    obtain ⟨D, n, ho, hn, hD⟩ := h1
    have := len_below hD.nd (fun x hx => hP x ((h3 x).1 hx))
    simpa using this
  obtain ⟨W', hr, h4, h5⟩ := h1.put ht (by omega) hk one64
  refine ⟨W', hr, ⟨_, h4, fun p hp => ?_, fun j => ?_⟩, h5⟩
  · rcases mem_putE.1 hp with hp | hp
    · exact h2 p hp.1
    · rw [hp]
  · constructor
    · intro hj
      obtain ⟨p, hp, rfl⟩ := List.mem_map.1 hj
      rcases mem_putE.1 hp with hp | hp
      · exact .inr ((h3 p.1).1 (List.mem_map.2 ⟨p, hp.1, rfl⟩))
      · rw [hp]; exact .inl rfl
    · intro hj
      by_cases e : j = k
      · subst e; exact List.mem_map.2 ⟨_, mem_putE.2 (.inr rfl), rfl⟩
      · obtain ⟨p, hp, rfl⟩ := List.mem_map.1 ((h3 j).2 (hj.resolve_left e))
        exact List.mem_map.2 ⟨p, mem_putE.2 (.inl ⟨hp, e⟩), rfl⟩
end
end Go.Proofs.Ytbainekfbonbjaa
