/- IntakeTakes: Take in all cases, on both sides, in the same words. No statement is proved here; nothing is assumed. -/
import Derived.Test.YtbainekfbonbjaaTakI
namespace Go.Proofs.Ytbainekfbonbjaa
open Go.RowKit Go.Shelf
set_option linter.unusedVariables false
set_option linter.unusedSimpArgs false

/-- What Take does, in plain words. -/
def T7 (F : Nat) (f : Kept7) (n : Nat) (p : List Nat) (fate err : Nat) (L : List (List Nat)) (F' : Nat) (f' : Kept7) : Prop :=
  (256 < p.length ∧ fate = 0 ∧ err = 3 ∧ L = [] ∧ F' = F ∧ f' = f) ∨
  (p.length ≤ 256 ∧ (n < F ∨ (f n).isSome = true) ∧ fate = 2 ∧ err = 0 ∧ L = [] ∧ F' = F ∧ f' = f) ∨
  (p.length ≤ 256 ∧ F + 16 ≤ n ∧ f n = none ∧ fate = 3 ∧ err = 0 ∧ L = [] ∧ F' = F ∧ f' = f) ∨
  (p.length ≤ 256 ∧ F ≤ n ∧ n < F + 16 ∧ f n = none ∧ fate = 1 ∧ err = 0 ∧ Drained F (setK f n (some p)) L ∧ F' = F + L.length ∧ f' = behind7 F (setK f n (some p)) L.length)
theorem again_not {F n : Nat} {f : Kept7} (ai : n < F ∨ (f n).isSome = true) (hn : f n = none) (h : F ≤ n) : False := by
  rcases ai with h2 | h2
  · omega
  · rw [hn] at h2; cases h2
theorem T7.uniq {F n fate err fate2 err2 F' F2 : Nat} {f f' f2 : Kept7} {p : List Nat} {L L2 : List (List Nat)} (h : T7 F f n p fate err L F' f') (h2 : T7 F f n p fate2 err2 L2 F2 f2) :
    fate2 = fate ∧ err2 = err ∧ L2 = L ∧ F2 = F' ∧ f2 = f' := by
  rcases h with ⟨a1, x1, x2, x3, x4, x5⟩ | ⟨a1, ai, x1, x2, x3, x4, x5⟩ | ⟨a1, a2, an, x1, x2, x3, x4, x5⟩ | ⟨a1, a2, a3, an, x1, x2, ad, x4, x5⟩ <;>
  rcases h2 with ⟨b1, y1, y2, y3, y4, y5⟩ | ⟨b1, bi, y1, y2, y3, y4, y5⟩ | ⟨b1, b2, bn, y1, y2, y3, y4, y5⟩ | ⟨b1, b2, b3, bn, y1, y2, bd, y4, y5⟩ <;>
  first
  | omega
  | exact (again_not ai bn (by omega)).elim
  | exact (again_not bi an (by omega)).elim
  | exact ⟨y1.trans x1.symm, y2.trans x2.symm, y3.trans x3.symm, y4.trans x4.symm, y5.trans x5.symm⟩
  | (have e := ad.uniq bd
     exact ⟨y1.trans x1.symm, y2.trans x2.symm, e.symm, by rw [x4, y4, e], by rw [x5, y5, e]⟩)
theorem pays_nil (B : Nat) (W : World) : Pays B W [] [] := ⟨rfl, by simp⟩
theorem takeAll (B bi bm F : Nat) (M : Ents) (f : Kept7) (q : Option Addr) (cap n : Nat) (p : List Nat) (w : World) (h : IntM B w bi bm F M f) (hB : B ≤ w.heap.size) (hp : ∀ x ∈ p, x < 256) (hr : Reads w (.slice q p.length cap) (u8s p))
    (hn : n < 4294967296) (hF : F + M.length ≤ 800) :
    Calls Try.prog 62 #[.pointer (some ⟨bi, 0, none⟩), .int .u32 (n : Int), .slice q p.length cap] w fun e w' => ∃ (v : Value) (vals : List Value) (L : List (List Nat)) (fate err F' : Nat) (M' : Ents) (f' : Kept7),
      e = .returned (.tuple #[v, .int .i64 (fate : Int), .int .i64 (err : Int)]) ∧ OwnAt w.heap.size w' 71 v vals ∧ Pays B w' vals L ∧ IntM B w' bi bm F' M' f' ∧ T7 F f n p fate err L F' f' ∧ F' + M'.length ≤ F + M.length + 1 ∧
      (∀ q ∈ M', Old M w.heap.size q.2) ∧ (∀ u ∈ vals, Old M w.heap.size u) ∧ Step [bi, bm] w w' := by
  by_cases hl : 256 < p.length
  · refine (take_long B bi bm F M f q p.length cap n w h hl).mono ?_
    rintro e w' ⟨rfl, rfl⟩
    exact ⟨_, [], [], 0, 3, F, M, f, rfl, ownAt_nil _ _ _, pays_nil _ _, h, .inl ⟨hl, rfl, rfl, rfl, rfl, rfl⟩, by omega, fun q hq => .inl ⟨q.1, hq⟩, by simp, Step.refl _ _⟩
  · have hl' : p.length ≤ 256 := by omega
    by_cases ha : n < F ∨ (f n).isSome = true
    · refine (take_again B bi bm F M f q p.length cap n w h hl' hn (by omega) ha).mono ?_
      rintro e w' ⟨rfl, rfl⟩
      exact ⟨_, [], [], 2, 0, F, M, f, rfl, ownAt_nil _ _ _, pays_nil _ _, h, .inr (.inl ⟨hl', ha, rfl, rfl, rfl, rfl, rfl⟩), by omega, fun q hq => .inl ⟨q.1, hq⟩, by simp, Step.refl _ _⟩
    · have hf : f n = none := by
        cases e : f n with
        | none => rfl
        | some x => exact absurd (.inr (by rw [e]; rfl)) ha
      have hnF : F ≤ n := Nat.le_of_not_lt fun h => ha (.inl h)
      by_cases h16 : F + 16 ≤ n
      · refine (take_far B bi bm F M f q p.length cap n w h hl' hn h16 hf).mono ?_
        rintro e w' ⟨rfl, rfl⟩
        exact ⟨_, [], [], 3, 0, F, M, f, rfl, ownAt_nil _ _ _, pays_nil _ _, h, .inr (.inr (.inl ⟨hl', h16, hf, rfl, rfl, rfl, rfl, rfl⟩)), by omega, fun q hq => .inl ⟨q.1, hq⟩, by simp, Step.refl _ _⟩
      · refine (take_ok B bi bm F M f q cap n p w h hB hl' hp hr hn (by omega) (by omega) hnF (by omega) hf).mono ?_
        rintro e w' ⟨v, vals, L, M', rfl, g1, g2, g3, g4, g5, g6, g7, g8⟩
        exact ⟨v, vals, L, 1, 0, _, M', _, rfl, g1, g2, g4, .inr (.inr (.inr ⟨hl', hnF, by omega, hf, rfl, rfl, g3, rfl, rfl⟩)), by omega, g6, g7, g8⟩
theorem refTakeAll (B br F : Nat) (sv : Value) (K : Ents) (f : Kept7) (q : Option Addr) (cap n : Nat) (p : List Nat) (w : World) (h : RefM B w br F sv K f) (hB : B ≤ w.heap.size) (hp : ∀ x ∈ p, x < 256) (hr : Reads w (.slice q p.length cap) (u8s p))
    (hn : n < 4294967296) (hF : F + K.length ≤ 800) :
    Calls Try.prog 72 #[.pointer (some ⟨br, 0, none⟩), .int .u32 (n : Int), .slice q p.length cap] w fun e w' => ∃ (v : Value) (vals : List Value) (L : List (List Nat)) (fate err F' : Nat) (sv' : Value) (K' : Ents) (f' : Kept7),
      e = .returned (.tuple #[v, .int .i64 (fate : Int), .int .i64 (err : Int)]) ∧ OwnAt w.heap.size w' 71 v vals ∧ Pays B w' vals L ∧ RefM B w' br F' sv' K' f' ∧ T7 F f n p fate err L F' f' ∧ F' + K'.length ≤ F + K.length + 1 ∧
      (∀ q ∈ K', Old K w.heap.size q.2) ∧ (∀ u ∈ vals, Old K w.heap.size u) ∧ StepR B w w' := by
  by_cases hl : 256 < p.length
  · refine (refTake_long br q p.length cap n w hl).mono ?_
    rintro e w' ⟨rfl, rfl⟩
    exact ⟨_, [], [], 0, 3, F, sv, K, f, rfl, ownAt_nil _ _ _, pays_nil _ _, h, .inl ⟨hl, rfl, rfl, rfl, rfl, rfl⟩, by omega, fun q hq => .inl ⟨q.1, hq⟩, by simp, StepR.of (Step.refl _ _)⟩
  · have hl' : p.length ≤ 256 := by omega
    by_cases ha : n < F ∨ (f n).isSome = true
    · refine (refTake_again B br F sv K f q p.length cap n w h (by omega) hl' ha).mono ?_
      rintro e w' ⟨rfl, rfl⟩
      exact ⟨_, [], [], 2, 0, F, sv, K, f, rfl, ownAt_nil _ _ _, pays_nil _ _, h, .inr (.inl ⟨hl', ha, rfl, rfl, rfl, rfl, rfl⟩), by omega, fun q hq => .inl ⟨q.1, hq⟩, by simp, StepR.of (Step.refl _ _)⟩
    · have hf : f n = none := by
        cases e : f n with
        | none => rfl
        | some x => exact absurd (.inr (by rw [e]; rfl)) ha
      have hnF : F ≤ n := Nat.le_of_not_lt fun h => ha (.inl h)
      by_cases h16 : F + 16 ≤ n
      · refine (refTake_far B br F sv K f q p.length cap n w h (by omega) hl' hn (by omega) h16 hf).mono ?_
        rintro e w' ⟨rfl, rfl⟩
        exact ⟨_, [], [], 3, 0, F, sv, K, f, rfl, ownAt_nil _ _ _, pays_nil _ _, h, .inr (.inr (.inl ⟨hl', h16, hf, rfl, rfl, rfl, rfl, rfl⟩)), by omega, fun q hq => .inl ⟨q.1, hq⟩, by simp, StepR.of (Step.refl _ _)⟩
      · refine (refTake_ok B br F sv K f q cap n p w h hB hl' hp hr hn (by omega) (by omega) hnF (by omega) hf).mono ?_
        rintro e w' ⟨v, j, vals, sv', K', rfl, g1, g2, g3, g4, g5, g6, g7, g8, g9⟩
        have hlen : ((List.range vals.length).map fun j => (setK f n (some p) (F + j)).getD []).length = vals.length := by simp
        have hL : ∀ (j : Nat) p', ((List.range vals.length).map fun j => (setK f n (some p) (F + j)).getD [])[j]? = some p' → j < vals.length ∧ p' = (setK f n (some p) (F + j)).getD [] := fun j p' hj => by
          rw [List.getElem?_map] at hj
          by_cases hlt : j < vals.length
          · rw [List.getElem?_range hlt] at hj
            simp at hj
            exact ⟨hlt, hj.symm⟩
          · rw [List.getElem?_eq_none (by simp; omega)] at hj
            cases hj
        subst g2
        refine ⟨v, vals, (List.range vals.length).map fun j => (setK f n (some p) (F + j)).getD [], 1, 0, _, sv', K', _, rfl, g1, ⟨hlen.symm, fun j u p' hu hp' => ?_⟩, g5, .inr (.inr (.inr ⟨hl', hnF, by omega, hf, rfl, rfl, ⟨fun j p' hp' => ?_, by rw [hlen]; exact g4⟩, by rw [hlen], by rw [hlen]⟩)), by omega, g7, g8, g9⟩
        · obtain ⟨p2, e1, e2⟩ := g3 j u hu
          rw [(hL j p' hp').2, e1]
          exact e2
        · obtain ⟨hlt, rfl⟩ := hL j p' hp'
          obtain ⟨p2, e1, _⟩ := g3 j _ (List.getElem?_eq_getElem hlt)
          rw [e1]; rfl
end Go.Proofs.Ytbainekfbonbjaa
