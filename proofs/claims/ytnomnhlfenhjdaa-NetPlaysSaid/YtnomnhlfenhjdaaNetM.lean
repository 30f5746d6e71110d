/- NetBits: its walk. No statement is proved here; nothing is assumed. -/
import Derived.Test.YtnomnhlfenhjdaaNetL
import Derived.OwnWalkIn
import Derived.TacticsInMore
import Derived.LoopNIn
import Derived.LoopIn
import Derived.Deep.QuietTactic
import Derived.BigQuiet
import Derived.Maps.OwnIn
import Derived.Laws.IdiomStrings
import Derived.Laws.BytesArg
namespace Go.Proofs.Ytnomnhlfenhjdaa
open Go.RowKit Go.Shelf
set_option linter.unusedVariables false
set_option linter.unusedSimpArgs false
attribute [local go_sem] Oper.semAt_some

/-- Bytes as values. -/
def u8s (xs : List Nat) : List Value := xs.map fun (x : Nat) => .int .u8 (x : Int)
theorem u8s_length (xs : List Nat) : (u8s xs).length = xs.length := by simp [u8s]
theorem u8s_get (xs : List Nat) (i : Nat) : (u8s xs)[i]? = xs[i]?.map fun (x : Nat) => .int .u8 (x : Int) := by simp [u8s]
theorem u8s_one (xs : List Nat) : ∀ u ∈ u8s xs, u.oneCell' = true := by simp [u8s, Value.oneCell']
def strN (xs : List Nat) : ByteArray := ⟨(xs.map UInt8.ofNat).toArray⟩

theorem Reads.cellAt {W : World} {v : Value} {vals : List Value} (h : Reads W v vals) {j : Nat} {x : Value} (hx : vals[j]? = some x) : ∃ b off cap, v = .slice (some ⟨b, off, none⟩) vals.length cap ∧ vals.length ≤ cap ∧ cap ≤ maxLen ∧ W.cell? ⟨b, off + j, none⟩ = some x := by
  rcases h with ⟨q, cap, rfl, rfl, _⟩ | ⟨b, off, cap, rfl, h1, h2, h3⟩
  · simp at hx
  · exact ⟨b, off, cap, rfl, h1, h2, by rw [h3 j (List.getElem?_eq_some_iff.1 hx).1, hx]⟩
theorem Reads.form {W : World} {v : Value} {vals : List Value} (h : Reads W v vals) : ∃ q cap, v = .slice q vals.length cap ∧ vals.length ≤ cap ∧ cap ≤ maxLen := by
  rcases h with ⟨q, cap, rfl, rfl, _, h⟩ | ⟨b, off, cap, rfl, h1, h2, h3⟩
  · exact ⟨q, cap, rfl, Nat.zero_le _, h⟩
  · exact ⟨_, cap, rfl, h1, h2⟩
theorem Reads.take {W : World} {q : Option Addr} {n cap : Nat} {vals : List Value} (h : Reads W (.slice q n cap) vals) (m : Nat) (hm : m ≤ n) (hq : q = none → cap = 0) : Reads W (.slice q m cap) (vals.take m) := by
  rcases h with ⟨q', cap', he, rfl, h1, h2⟩ | ⟨b, off, cap', he, h1, h2, h3⟩
  · cases he
    obtain rfl : m = 0 := by omega
    exact .inl ⟨q, cap, rfl, by simp, h1, h2⟩
  · cases he
    refine .inr ⟨b, off, cap, by rw [List.length_take, Nat.min_eq_left hm], by rw [List.length_take]; omega, h2, fun j hj => ?_⟩
    rw [List.length_take] at hj
    rw [h3 j (by omega), List.getElem?_take, if_pos (by omega)]

/-- string(b). -/
theorem back_all (W : World) (v : Value) (xs : List Nat) (hx : ∀ x ∈ xs, x < 256) (h : Reads W v (u8s xs)) : (convert 68 9 v).run Try.prog W = .ok (.string (strN xs)) W := by
  rcases h with ⟨q, cap, rfl, h0, _⟩ | ⟨b, off, cap, rfl, h1, h2, h3⟩
  · obtain rfl : xs = [] := by simpa [u8s] using h0
    cases q with
    | none => exact run_convert_bytes_nil W 68 5 Try.underlying68 Try.underlying5 0 cap 9 Try.underlying9
    | some a => exact run_convert_bytes_back W 68 9 5 a cap [] Try.underlying68 Try.underlying5 Try.underlying9 (fun j hj => by simp at hj)
  · have := run_convert_bytes_back W 68 9 5 ⟨b, off, none⟩ cap (xs.map UInt8.ofNat) Try.underlying68 Try.underlying5 Try.underlying9 (fun j hj => by
      rw [List.length_map] at hj
      have h4 := h3 j (by rw [u8s_length]; exact hj)
      rw [add_plain', h4, u8s_get, List.getElem?_eq_getElem hj]
      simp [Nat.mod_eq_of_lt (hx _ (List.getElem_mem hj))])
    rw [List.length_map] at this
    rw [u8s_length]
    exact this


end Go.Proofs.Ytnomnhlfenhjdaa
