import Derived.Test.YtbainekfbonbjaaSeqO
import Derived.Test.YtbainekfbonbjaaBaseB
import Derived.OwnWalkIn
import Derived.TacticsInMore
import Derived.LoopNIn
import Derived.LoopIn
import Derived.Deep.QuietTactic
import Derived.BigQuiet
import Derived.Maps.OwnIn
namespace Go.Proofs.Ytbainekfbonbjaa
open Go.RowKit Go.Shelf
set_option linter.unusedVariables false
attribute [local go_sem] Oper.semAt_some

/-- Two slice variables, each with a row of its own. -/
def Two (base b4 b5 : Nat) (xs ys : List Nat) (W : World) : Prop :=
  ∃ v4 v5, Boxed W b4 26 v4 ∧ OwnU base W v4 xs ∧ Boxed W b5 26 v5 ∧ OwnU base W v5 ys ∧ ∀ g, v4.ownBlock = some g → v5.ownBlock = some g → False

theorem ownU_block {base : Nat} {W : World} {v : Value} {zs : List Nat} (h : OwnU base W v zs) {g : Nat} (hg : v.ownBlock = some g) : base ≤ g ∧ g < W.heap.size := h.lt g hg

theorem Two.first {base b4 b5 : Nat} {xs ys zs : List Nat} {W W' : World} {v4 v5 : Value} (h4 : OwnU base W v4 xs) (h5b : Boxed W b5 26 v5) (h5 : OwnU base W v5 ys) (hap : ∀ g, v4.ownBlock = some g → v5.ownBlock = some g → False) (hne : b5 ≠ b4) (hb5 : b5 < base)
    (ht : Turned base b4 zs v4 W W') (hs : Step (b4 :: v4.ownBlock.toList) W W') (hb4 : b4 < base) : Two base b4 b5 zs ys W' := by
  obtain ⟨v', hb', hv', hat⟩ := ht
  refine ⟨v', v5, hb', hv', boxed_beside h5b h4 hb5 hne hs, row_step h5 hs ?_, ?_⟩
  · intro g hg hm
    rcases List.mem_cons.1 hm with rfl | hm
    · have := (ownU_block h5 hg).1; omega
    · exact hap g (by simpa using hm) hg
  · intro g h1 h2
    rcases hat with e | ⟨k, e, hk⟩
    · exact hap g (e ▸ h1) h2
    · have := (ownU_block h5 h2).2
      rw [e] at h1
      cases h1
      omega
theorem Two.second {base b4 b5 : Nat} {xs ys zs : List Nat} {W W' : World} {v4 v5 : Value} (h4b : Boxed W b4 26 v4) (h4 : OwnU base W v4 xs) (h5 : OwnU base W v5 ys) (hap : ∀ g, v4.ownBlock = some g → v5.ownBlock = some g → False) (hne : b4 ≠ b5) (hb4 : b4 < base)
    (ht : Turned base b5 zs v5 W W') (hs : Step (b5 :: v5.ownBlock.toList) W W') (hb5 : b5 < base) : Two base b4 b5 xs zs W' := by
  obtain ⟨v', hb', hv', hat⟩ := ht
  refine ⟨v4, v', boxed_beside h4b h5 hb4 hne hs, row_step h4 hs ?_, hb', hv', ?_⟩
  · intro g hg hm
    rcases List.mem_cons.1 hm with rfl | hm
    · have := (ownU_block h4 hg).1; omega
    · exact hap g hg (by simpa using hm)
  · intro g h1 h2
    rcases hat with e | ⟨k, e, hk⟩
    · exact hap g h1 (e ▸ h2)
    · have := (ownU_block h4 h1).2
      rw [e] at h2
      cases h2
      omega
theorem Two.calm {base b4 b5 B : Nat} {xs ys : List Nat} {W W' : World} (h : Two base b4 b5 xs ys W) (hc : Calm B W W') : Two base b4 b5 xs ys W' := by
  obtain ⟨v4, v5, h1, h2, h3, h4, h5⟩ := h
  exact ⟨v4, v5, boxed_calm h1 hc, row_calm h2 hc, boxed_calm h3 hc, row_calm h4 hc, h5⟩
/-- What a turn of one of the two leaves of the step from the beginning. -/
theorem step_two {base b4 b5 b : Nat} {v : Value} {zs : List Nat} {w0 W W' : World} (h : Step [b4, b5] w0 W) (hb : b ∈ [b4, b5]) (hv : OwnU base W v zs) (hbase : w0.heap.size ≤ base) (hs : Step (b :: v.ownBlock.toList) W W') : Step [b4, b5] w0 W' :=
  h.trans' hs (fun _ h _ => h) (fun i hi hlt => by
    rcases List.mem_cons.1 hi with rfl | hi
    · exact hb
    · have := (ownU_block hv (g := i) (by simpa using hi)).1; omega)

def wanted (bits f x : Nat) : Bool := !bitAt bits (x - f)

/-- How far the two have come. -/
def Going (w7 : World) (b4 b5 bits f many : Nat) (pre : List Nat) (W : World) : Prop :=
  Step [b4, b5] w7 W ∧ Two w7.heap.size b4 b5 pre (pre.filter (wanted bits f)) W ∧ (pre.filter (wanted bits f)).length ≤ many
def AskedMid (w7 : World) (b4 b5 bits f L many : Nat) (s : List Nat × Nat) (W : World) : Prop :=
  wanted bits f s.2 = true ∧ s.1 ++ [s.2] <+: List.range' f L ∧ Step [b4, b5] w7 W ∧ Two w7.heap.size b4 b5 (s.1 ++ [s.2]) (s.1.filter (wanted bits f)) W ∧ (s.1.filter (wanted bits f)).length ≤ many
theorem going_abide (w7 : World) (b4 b5 bits f many : Nat) : Abide w7.heap.size (Going w7 b4 b5 bits f many) :=
  fun s A B ⟨h1, h2, h3⟩ hc => ⟨h1.calm hc (Nat.le_refl _), h2.calm hc, h3⟩
theorem mid_abide (w7 : World) (b4 b5 bits f L many : Nat) : Abide w7.heap.size (AskedMid w7 b4 b5 bits f L many) :=
  fun s A B ⟨h0, h1, h2, h3, h4⟩ hc => ⟨h0, h1, h2.calm hc (Nat.le_refl _), h3.calm hc, h4⟩

theorem enters82' : Enters Try.prog 82 := enters_of Try.func82 (by kernel_rfl) rfl

/-- Missing OVER A have THAT KEEPS WHAT IT IS ASKED. -/
theorem asked_gives (w7 : World) (b0 b1 b4 b5 n bits f t L many : Nat) (hL : L ≤ 1000) (hfL : f + L = t) (ht : t < 4294967296) (hbits : bits < 18446744073709551616)
    (hn : n + 5 ≤ w7.heap.size) (h0 : b0 < n) (h1 : b1 < n) (h4 : b4 < n) (h5 : b5 < n) (h04 : b0 ≠ b4) (h14 : b1 ≠ b4) (h54 : b5 ≠ b4) (h05 : b0 ≠ b5) (h15 : b1 ≠ b5)
    (G0 : Boxed w7 b0 22 (.int .u32 (f : Int))) (G1 : Boxed w7 b1 23 (.int .u64 (bits : Int)))
    (K1 : Boxed w7 (n + 1) 27 (.func (.func 17) #[] #[.pointer (some ⟨b4, 0, none⟩), .pointer (some ⟨b1, 0, none⟩), .pointer (some ⟨b0, 0, none⟩)]))
    (KS : w7.heap[n + 1 + 1]? = some (spanObj f t))
    (K2 : Boxed w7 (n + 1 + 1 + 1) 28 (.func (.func 87) #[] #[.pointer (some ⟨n + 1 + 1, 0, none⟩)]))
    (K3 : Boxed w7 (n + 1 + 1 + 1 + 1) 27 (.func (.func 82) #[] #[.pointer (some ⟨n + 1, 0, none⟩)])) :
    ∀ (l : Nat) (rc : World → Prop) (Jx : List Nat × Nat → World → Prop) (W1 : World) (X1 : List Nat), w7.heap.size ≤ W1.heap.size → (∀ k ∈ X1, k < W1.heap.size) → (∀ A C, rc A → Calm W1.heap.size A C → rc C) → (∀ A C, rc A → BookX [] A C → rc C) → Abide W1.heap.size Jx →
      (∀ s W', AskedMid w7 b4 b5 bits f L many s W' → rc W' → Yields Try.prog l #[.int .u32 (s.2 : Int)] W' (fun e W'' => ((e = .returned (.bool true) ∧ Going w7 b4 b5 bits f many (s.1 ++ [s.2]) W'' ∧ rc W'') ∨ (e = .returned (.bool false) ∧ Jx s W'')) ∧ BookX X1 W' W'')) → Going w7 b4 b5 bits f many [] W1 → rc W1 →
      Calls Try.prog 107 (#[.func (.yield l) #[] #[]] ++ #[.pointer (some ⟨n + 1 + 1 + 1, 0, none⟩), .pointer (some ⟨n + 1 + 1 + 1 + 1, 0, none⟩)]) W1 (fun e W' => (∃ v, e = .returned v) ∧ ((Going w7 b4 b5 bits f many (List.range' f L) W' ∧ rc W') ∨ ∃ s, Jx s W')) := by
  intro l rc Jx W1 X1 hW1 hX1 hrc hrcB hJx hY hSt hrc1
  have kept : ∀ {pre W'}, Going w7 b4 b5 bits f many pre W' → Step [b4, b5] w7 W' := fun h => h.1
  have nm : ∀ k, n ≤ k → k ∉ [b4, b5] := fun k hk h => by simp at h; omega
  refine (those_calls (all_gives f t (n + 1 + 1) ht (by omega)) enters87 (slb := #[.pointer (some ⟨n + 1, 0, none⟩)]) enters82' (wanted bits f) (n + 1 + 1 + 1) (n + 1 + 1 + 1 + 1) l
    (fun pre W => Going w7 b4 b5 bits f many pre W ∧ rc W) (fun _ W => ∃ s, Jx s W) (fun pre x W => (Step [b4, b5] w7 W ∧ Two w7.heap.size b4 b5 (pre ++ [x]) (pre.filter (wanted bits f)) W ∧ (pre.filter (wanted bits f)).length ≤ many) ∧ rc W) W1 X1 hX1
    (fun s A B h hc => ⟨(going_abide w7 b4 b5 bits f many).mono hW1 s A B h.1 hc, hrc A B h.2 hc⟩) (fun s A B h hc => h.imp fun s hs => hJx s A B hs hc) ?hR ?hso ?hskip ?hY ⟨hSt, hrc1⟩).mono ?_
  case hR =>
    rintro pre W' ⟨hj, _⟩
    exact ⟨obj_step KS hj.1 (nm _ (by omega)), boxed_step K2 hj.1 (nm _ (by omega)), boxed_step K3 hj.1 (nm _ (by omega))⟩
  case hso =>
    rintro pre x W' ⟨⟨hs, ⟨v4, v5, q1, q2, q3, q4, q5⟩, hm⟩, hr⟩ ha
    rw [show t - f = L from by omega] at ha
    have hlen := ha.length_le
    simp at hlen
    have hx := range'_mem (ha.subset (List.mem_append_right _ (List.mem_singleton.2 rfl)))
    refine (not_have (n + 1) w7.heap.size b4 b1 b0 f x bits pre v4 W' (boxed_step K1 hs (nm _ (by omega))) hx.1 (by have := hx.2; omega) hbits (by omega) hs.size (by omega) (by omega) h14 h04 q1 q2 (boxed_step G1 hs (by simp; exact ⟨h14, h15⟩)) (boxed_step G0 hs (by simp; exact ⟨h04, h05⟩))).mono ?_
    rintro e W2 ⟨rfl, hk, hs2⟩
    exact ⟨rfl, ⟨⟨step_two hs (by simp) q2 (Nat.le_refl _) hs2, Two.first q2 q3 q4 q5 h54 (by omega) hk hs2 (by omega), hm⟩, hrcB _ _ hr hs2.book⟩, hs2.book.mono (by simp)⟩
  case hskip =>
    rintro pre x W' hq ha ⟨⟨hs, h2, hm⟩, hr⟩
    have e : (pre ++ [x]).filter (wanted bits f) = pre.filter (wanted bits f) := by simp [hq]
    exact ⟨⟨hs, by rw [e]; exact h2, by rw [e]; exact hm⟩, hr⟩
  case hY =>
    rintro pre x W' hq ha ⟨⟨hs, h2, hm⟩, hr⟩
    rw [show t - f = L from by omega] at ha
    have := hY (pre, x) W' ⟨hq, ha, hs, h2, hm⟩ hr
    obtain ⟨fn, tmps, assign, body, hy, hRR⟩ := this
    refine ⟨fn, tmps, assign, body, hy, hRR.mono ?_⟩
    rintro e W'' ⟨(⟨rfl, hg, hr2⟩ | ⟨rfl, hj⟩), hb⟩
    · exact ⟨.inl ⟨rfl, hg, hr2⟩, hb⟩
    · exact ⟨.inr ⟨rfl, _, hj⟩, hb⟩
  · rintro e W' ⟨hv, (⟨xs, rfl, hg, hr⟩ | ⟨pre, hj⟩)⟩
    · rw [show t - f = L from by omega] at hg
      exact ⟨hv, .inl ⟨hg, hr⟩⟩
    · exact ⟨hv, .inr hj⟩
end Go.Proofs.Ytbainekfbonbjaa
