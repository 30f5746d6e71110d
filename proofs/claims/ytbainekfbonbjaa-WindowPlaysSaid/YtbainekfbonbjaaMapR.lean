/- A range over a map whose keys are numbers of 32 bits: what is still to come, as a list of pairs. No statement is proved here; nothing is assumed. -/
import Derived.Test.YtbainekfbonbjaaMapV
import Derived.OpenShut
namespace Go.Proofs.Ytbainekfbonbjaa
open Go.RowKit Go.Maps
set_option linter.unusedVariables false

theorem Step.iter {S : List Nat} {w0 W W' : World} {r : Nat} (h : Step S w0 W) (hg : W.grownBy W' (some r)) (hr : w0.heap.size ≤ r) : Step S w0 W' :=
  ⟨hg.os.trans h.os, hg.tape.trans h.tape, hg.output.trans h.output, Nat.le_trans h.size hg.size,
    fun k hk hS => (hg.block k (Nat.lt_of_lt_of_le hk h.size) (fun e => by cases e; omega)).trans (h.same k hk hS),
    fun k o hk ho hx => (hg.block k (Nat.lt_of_lt_of_le (heap_lt hk) h.size) (fun e => by cases e; have := heap_lt hk; omega)).trans (h.book k o hk ho hx)⟩
theorem Calm.iter {B : Nat} {W W' : World} {r : Nat} {o : Obj} (hg : W.grownBy W' (some r)) (hr : B ≤ r) (ho : W.heap[r]? = some o) (hb : isBook o = true) : Calm B W W' :=
  ⟨hg.os, hg.tape, hg.output, hg.size, fun k u hk hu => by
    by_cases e : k = r
    · subst e
      rw [ho] at hk; cases hk
      rcases hu with hu | hu
      · rw [hb] at hu; cases hu
      · omega
    · exact (hg.block k (heap_lt hk) (fun h => e (Option.some.inj h))).trans hk⟩

/-- Under way over map b of M, by the iterator r: L is still to come. -/
def RngV (W : World) (b r : Nat) (M L : Ents) : Prop :=
  ∃ D n left cnt, W.ranges Try.prog 22 asHeld b r n D left cnt ∧ n ≤ M.length ∧ Fits D M ∧ (L.map Prod.fst).Nodup ∧ (∀ p ∈ L, p ∈ M) ∧ ∀ k : Nat, k < 4294967296 → (left (.int .u32 (k : Int)) = true ↔ k ∈ L.map Prod.fst)
section
variable {W W' : World} {b r : Nat} {M L : Ents} {t e : TypeId}
theorem RngV.mapv (h : RngV W b r M L) : MapV W b M := by
  obtain ⟨D, n, left, cnt, h1, h2, h3, _⟩ := h
  exact ⟨D, n, h1.owns, h2, h3⟩
theorem RngV.sub (h : RngV W b r M L) : ∀ p ∈ L, p ∈ M := by
  obtain ⟨D, n, left, cnt, _, _, _, _, h, _⟩ := h
  exact h
theorem RngV.iter (h : RngV W b r M L) : ∃ o, W.heap[r]? = some o ∧ isBook o = true := by
  obtain ⟨D, n, left, cnt, ⟨es, clock, since, seen, c0, _, _, _, _, hr, _⟩, _⟩ := h
  exact ⟨_, hr, rfl⟩
theorem RngV.ne (h : RngV W b r M L) : r ≠ b := by
  obtain ⟨D, n, left, cnt, h, _⟩ := h
  exact h.ne
theorem RngV.grown {row : Option Nat} (h : RngV W b r M L) (hg : W.grownBy W' row) (hb : some b ≠ row) (hr : some r ≠ row) : RngV W' b r M L := by
  obtain ⟨D, n, left, cnt, h1, h2⟩ := h
  exact ⟨D, n, left, cnt, h1.kept hg hb hr, h2⟩
theorem RngV.blocks (h : RngV W b r M L) (h1 : W'.heap[b]? = W.heap[b]?) (h2 : W'.heap[r]? = W.heap[r]?) : RngV W' b r M L := by
  obtain ⟨D, n, left, cnt, ⟨es, clock, since, seen, c0, e1, F, e2, e3, e4, e5⟩, e6⟩ := h
  exact ⟨D, n, left, cnt, ⟨es, clock, since, seen, c0, h1.trans e1, F, e2, e3, h2.trans e4, e5⟩, e6⟩
theorem RngV.lt (h : RngV W b r M L) : b < W.heap.size ∧ r < W.heap.size := by
  obtain ⟨D, n, left, cnt, h1, h2⟩ := h
  exact ⟨h1.owns.lt, h1.lt⟩
/-- A step that touches neither the map nor the iterator. -/
theorem RngV.step {S : List Nat} (h : RngV W b r M L) (hs : Step S W W') (hb : b ∉ S) (hr : r ∉ S) : RngV W' b r M L :=
  h.blocks (hs.same b h.lt.1 hb) (hs.same r h.lt.2 hr)
theorem RngV.calm {B : Nat} (h : RngV W b r M L) (hc : Calm B W W') (hr : r < B) : RngV W' b r M L := by
  obtain ⟨es, clock, hb⟩ := h.mapv.block
  obtain ⟨o, ho, _⟩ := h.iter
  exact h.blocks ((hc.keep b _ hb (.inl rfl)).trans hb.symm) ((hc.keep r _ ho (.inr hr)).trans ho.symm)

theorem lit_inj {j k : Nat} : (Lit.int .u32 (j : Int)).sameKey (Lit.int .u32 (k : Int)) = (j == k) := by
  show decide (IntKind.u32 = IntKind.u32 ∧ (j : Int) = (k : Int)) = (j == k)
  by_cases h : j = k
  · subst h; simp
  · rw [show (j == k) = false by simpa using h]
    simp; omega

/-- 'range m'. -/
theorem MapV.range (h : MapV W b M) (ht : Try.prog.underlying t = some (.map 22 e)) :
    ∃ W', (Instr.range t (.map (some b))).run Try.prog W = .ok (.pointer (some ⟨W.heap.size, 0, none⟩)) W' ∧ RngV W' b W.heap.size M M ∧ W.grownBy W' none ∧ W'.heap.size = W.heap.size + 1 := by
  obtain ⟨D, n, ho, hn, hD⟩ := h
  obtain ⟨W', h1, h2, h3, h4⟩ := ho.range law22 ht
  refine ⟨W', h1, ⟨D, n, _, _, h2, hn, hD, hD.nd, fun _ h => h, fun k hk => ?_⟩, h3, h4⟩
  rw [hD.hs k hk, hasE_iff]
  constructor
  · rintro ⟨v, hv⟩
    exact List.mem_map.2 ⟨_, hv, rfl⟩
  · intro hm
    obtain ⟨p, hp, rfl⟩ := List.mem_map.1 hm
    exact ⟨p.2, hp⟩
theorem Step.ofGrown {S : List Nat} (hg : W.grownBy W' none) : Step S W W' := Step.grown hg (fun j hj => by cases hj)
theorem mem_delE {M : Ents} {k : Nat} {p : Nat × Value} : p ∈ delE M k ↔ p ∈ M ∧ p.1 ≠ k := by
  unfold delE; rw [List.mem_filter]; simp
theorem keys_delE {M : Ents} {k j : Nat} : j ∈ (delE M k).map Prod.fst ↔ j ∈ M.map Prod.fst ∧ j ≠ k := by
  simp only [List.mem_map, mem_delE]
  constructor
  · rintro ⟨p, ⟨h1, h2⟩, rfl⟩; exact ⟨⟨p, h1, rfl⟩, h2⟩
  · rintro ⟨⟨p, h1, rfl⟩, h2⟩; exact ⟨p, ⟨h1, h2⟩, rfl⟩
set_option maxRecDepth 100000 in
/-- THE STEP. -/
theorem RngV.next (h : RngV W b r M L) (ty : TypeId) :
    (L = [] ∧ (Instr.next (.pointer (some ⟨r, 0, none⟩)) false ty).run Try.prog W = .ok (.tuple #[.bool false]) W) ∨
    ∃ k v W', (k, v) ∈ L ∧ k < 4294967296 ∧ (Instr.next (.pointer (some ⟨r, 0, none⟩)) false ty).run Try.prog W = .ok (.tuple #[.bool true, .int .u32 (k : Int), v]) W' ∧
      RngV W' b r M (delE L k) ∧ W'.rangeLeft b r < W.rangeLeft b r ∧ W.grownBy W' (some r) ∧ W'.heap.size = W.heap.size ∧ (Instr.entry (.pointer (some ⟨r, 0, none⟩))).run Try.prog W' = .ok (.tuple #[.int .u32 (k : Int), v]) W' := by
  obtain ⟨D, n, left, cnt, h1, hn, hD, hnd, hsub, hl⟩ := h
  have kb : ∀ k ∈ L.map Prod.fst, k < 4294967296 := fun k hk => by
    obtain ⟨p, hp, rfl⟩ := List.mem_map.1 hk
    exact hD.kb p (hsub p hp)
  rcases h1.next law22 ty with ⟨_, hf, hrun⟩ | ⟨key, v, kl, y, W', cnt', hkey, hlk, hv, hat, hrun, h2, hlt, hg, hs, hen⟩
  · left
    refine ⟨?_, hrun⟩
    cases L with
    | nil => rfl
    | cons p t =>
      have := (hl p.1 (kb p.1 (by simp))).2 (by simp)
      rw [hf] at this; cases this
  · right
    obtain ⟨x, rfl, rfl, hw⟩ := Maps.keyOf_int_inv Try.underlying22 hkey
    have bx := bounds_u32 hw
    obtain ⟨k, rfl⟩ := Int.eq_ofNat_of_zero_le bx.1
    have hk : k < 4294967296 := by have := bx.2; omega
    have hm := (hl k hk).1 hlk
    obtain ⟨p, hp, hpk⟩ := List.mem_map.1 hm
    subst hpk
    have h3 := hat (.held v)
    rw [hD.at_ p (hsub p hp)] at h3
    have h4 : y.1 = .held v := by
      have h5 : asHeld v = some y := hv
      unfold asHeld at h5
      injection h5 with h5
      rw [← h5]
    rw [h4] at h3
    injection h3 with h3
    subst h3
    refine ⟨p.1, p.2, W', hp, hk, hrun, ⟨D, n, _, cnt', h2, hn, hD, nodup_del hnd _, fun q hq => hsub q (mem_delE.1 hq).1, fun j hj => ?_⟩, by rw [h1.left_eq, h2.left_eq]; exact hlt, hg, hs, hen⟩
    rw [keys_delE, ← hl j hj, Bool.and_eq_true, Bool.not_eq_true', lit_inj]
    simp
set_option maxRecDepth 100000 in
/-- 'delete(m, k)' in the round. -/
theorem RngV.drop (h : RngV W b r M L) (ht : Try.prog.underlying t = some (.map 22 e)) {k : Nat} (hk : k < 4294967296) (ty : TypeId) :
    ∃ W', (Builtin.delete_ #[t, 22] ty #[.map (some b), .int .u32 (k : Int)]).run Try.prog W = .ok (.tuple #[]) W' ∧ RngV W' b r (delE M k) (delE L k) ∧ W'.rangeLeft b r ≤ W.rangeLeft b r ∧ Step [b] W W' := by
  obtain ⟨es0, clock0, hb0⟩ := h.mapv.block
  obtain ⟨D, n, left, cnt, h1, hn, hD, hnd, hsub, hl⟩ := h
  obtain ⟨W', cnt', hrun, h2, hle, ht2⟩ := h1.drop law22 ht (key32 hk) ty
  have hF := hD.del hk
  obtain ⟨es, clock, since, seen, c0, e1, F, e2, e3, e4, e5⟩ := h2
  have hsz : es.size ≤ (delE M k).length := by
    rw [← hF.sz, e3, size_eq, length_sorted]; simp
  refine ⟨W', hrun, ⟨_, (delE M k).length, (fun x => left x && !x.sameKey (Lit.int IntKind.u32 ↑k)), cnt', ⟨es, clock, since, seen, c0, e1, F, hsz, e3, e4, e5⟩, Nat.le_refl _, hF, nodup_del hnd _, fun q hq => mem_delE.2 ⟨hsub q (mem_delE.1 hq).1, (mem_delE.1 hq).2⟩, fun j hj => ?_⟩, ?_, Step.grown ht2.grown (fun j hj => ?_)⟩
  · rw [keys_delE, ← hl j hj, Bool.and_eq_true, Bool.not_eq_true', lit_inj]
    simp
  · rw [h1.left_eq, World.ranges.left_eq (left := (fun x => left x && !x.sameKey (Lit.int IntKind.u32 ↑k))) ⟨es, clock, since, seen, c0, e1, F, e2, e3, e4, e5⟩]; exact hle
  · cases hj
    exact ⟨.inl (by simp), fun o ho2 => by rw [hb0] at ho2; cases ho2; rfl⟩
end
end Go.Proofs.Ytbainekfbonbjaa
