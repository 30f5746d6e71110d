/- net: the methods' contracts over what waits alone. No statement is proved here; nothing is assumed. -/
import Derived.Test.YtnomnhlfenhjdaaNetG
import Derived.Test.YtnomnhlfenhjdaaNetH
namespace Go.Proofs.Ytnomnhlfenhjdaa
open Go.RowKit Go.Shelf
set_option linter.unusedVariables false

/-- What waits on both ways (l): wherever it lies. -/
def NetL (B : Nat) (W : World) (bn : Nat) (l : Nat → List (List Value)) : Prop := ∃ r e, NetAt B W bn r e l
/-- Bytes, each of one cell. -/
def AllOne (l : Nat → List (List Value)) : Prop := ∀ k (j : Nat) c, (l k)[j]? = some c → (∀ u ∈ c, u.oneCell' = true) ∧ c.length ≤ 600

theorem NetL.same {B : Nat} {W W' : World} {bn : Nat} {l : Nat → List (List Value)} (h : NetL B W bn l) (hs : Step [] W W') : NetL B W' bn l := by
  obtain ⟨r, e, h⟩ := h
  exact ⟨r, e, h.same hs⟩

theorem new_L (w : World) : Calls Try.prog 28 #[] w fun e w' => ∃ bn, e = .returned (.pointer (some ⟨bn, 0, none⟩)) ∧ NetL w.heap.size w' bn (fun _ => []) ∧ Step [] w w' := by
  refine (netNew_any w).mono ?_
  rintro e w' ⟨rfl, h, hs⟩
  exact ⟨_, rfl, ⟨fun _ => .slice none 0 0, fun _ => [], h, Nat.le_refl _, fun k _ => ownAt_nil _ _ _, fun k _ => rfl, fun k _ j s c h => by simp at h, fun g hg => (nomatch hg), fun k k' j j' s s' g _ _ h => by simp at h⟩, hs⟩

theorem send_L (B bn way : Nat) (hw : way < 2) (l : Nat → List (List Value)) (v : Value) (c : List Value) (h1c : ∀ u ∈ c, u.oneCell' = true) (hc : c.length ≤ 600) (hl : (l way).length < 64) (w : World) (h : NetL B w bn l) (hv : Reads w v c) :
    Calls Try.prog 29 #[.pointer (some ⟨bn, 0, none⟩), .int .i64 (way : Int), v] w fun e w' => e = .returned (.tuple #[.bool false, .int .i64 0]) ∧ NetL B w' bn (upd l way (l way ++ [c])) ∧ StepB B w w' ∧ (∀ v c, OwnAt B w 5 v c → OwnAt B w' 5 v c) := by
  obtain ⟨r, e, h⟩ := h
  refine (send_ok B bn way hw r e l v c h1c hc (by rw [h.xl way hw]; exact hl) w h hv).mono ?_
  rintro e1 w' ⟨rfl, r', s, hN, hs, hby⟩
  exact ⟨rfl, ⟨_, _, hN⟩, hs, hby⟩
theorem deliver_L (B bn way i : Nat) (hw : way < 2) (l : Nat → List (List Value)) (hi : i < (l way).length) (hl : (l way).length < 1000) (w : World) (h : NetL B w bn l) :
    Calls Try.prog 33 #[.pointer (some ⟨bn, 0, none⟩), .int .i64 (way : Int), .int .i64 (i : Int)] w fun e w' => ∃ q n cc c, (l way)[i]? = some c ∧ e = .returned (.tuple #[.slice q n cc, .int .i64 0]) ∧ OwnAt B w' 5 (.slice q n cc) c ∧ NetL B w' bn (upd l way ((l way).eraseIdx i)) ∧ StepB B w w' ∧ (∀ v c, OwnAt B w 5 v c → OwnAt B w' 5 v c) := by
  obtain ⟨r, e, h⟩ := h
  refine (deliver_ok B bn way i hw r e l (by rw [h.xl way hw]; exact hi) (by rw [h.xl way hw]; exact hl) w h).mono ?_
  rintro e1 w' ⟨s, c, h1, h2, rfl, ho, r', hN, hs, hby⟩
  exact ⟨s.1, s.2.1, s.2.2, c, h2, rfl, ho, ⟨_, _, hN⟩, hs, hby⟩
theorem double_L (B bn way i : Nat) (hw : way < 2) (l : Nat → List (List Value)) (c : List Value) (hcd : (l way)[i]? = some c) (h1c : ∀ u ∈ c, u.oneCell' = true) (hcl : c.length < 1000000) (hl : (l way).length < 64) (w : World) (h : NetL B w bn l) :
    Calls Try.prog 32 #[.pointer (some ⟨bn, 0, none⟩), .int .i64 (way : Int), .int .i64 (i : Int)] w fun e w' => e = .returned (.int .i64 0) ∧ NetL B w' bn (upd l way (l way ++ [c])) ∧ StepB B w w' ∧ (∀ v c, OwnAt B w 5 v c → OwnAt B w' 5 v c) := by
  obtain ⟨r, e, h⟩ := h
  have hi := (List.getElem?_eq_some_iff.1 hcd).1
  refine (double_ok B bn way i hw r e l c hcd h1c hcl (by rw [h.xl way hw]; exact hi) (by rw [h.xl way hw]; exact hl) w h).mono ?_
  rintro e1 w' ⟨rfl, r', s, hN, hs, hby⟩
  exact ⟨rfl, ⟨_, _, hN⟩, hs, hby⟩
theorem flip_L (B bn way i k : Nat) (hw : way < 2) (l : Nat → List (List Value)) (c : List Value) (x : Nat) (hcd : (l way)[i]? = some c) (hx : c[k / 8]? = some (.int .u8 (x : Int))) (hxb : x < 256) (hcl : c.length ≤ 600) (hl : (l way).length ≤ 64) (w : World) (h : NetL B w bn l) :
    Calls Try.prog 30 #[.pointer (some ⟨bn, 0, none⟩), .int .i64 (way : Int), .int .i64 (i : Int), .int .i64 (k : Int)] w fun e w' => e = .returned (.int .i64 0) ∧ NetL B w' bn (upd l way ((l way).set i (c.set (k / 8) (flipV x (k % 8))))) ∧ StepB B w w' := by
  obtain ⟨r, e, h⟩ := h
  have hi := (List.getElem?_eq_some_iff.1 hcd).1
  refine (flip_ok B bn way i k hw r e l c x hcd hx hxb hcl (by rw [h.xl way hw]; exact hi) (by rw [h.xl way hw]; exact hl) w h).mono ?_
  rintro e1 w' ⟨rfl, hN, hs⟩
  exact ⟨rfl, ⟨_, _, hN⟩, hs⟩
theorem waits_L (B bn way : Nat) (hw : way < 2) (l : Nat → List (List Value)) (w : World) (h : NetL B w bn l) :
    Calls Try.prog 34 #[.pointer (some ⟨bn, 0, none⟩), .int .i64 (way : Int)] w fun e w' => e = .returned (.int .i64 ((l way).length : Int)) ∧ w = w' := by
  obtain ⟨r, e, h⟩ := h
  obtain ⟨q, c, hr, _, _⟩ := (h.xr way hw).form
  rw [List.length_map] at hr
  rw [← h.xl way hw]
  exact waits_ok bn way (r 0) (r 1) q _ c hw ((h.rowOf hw).trans hr) w h.xo
end Go.Proofs.Ytnomnhlfenhjdaa
