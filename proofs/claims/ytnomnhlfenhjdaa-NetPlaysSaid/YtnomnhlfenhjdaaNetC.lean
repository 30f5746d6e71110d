/- slices.Delete at a row of byte slices, out of the library's contract. No statement is proved here; nothing is assumed. -/
import Derived.Test.YtnomnhlfenhjdaaNetB
import Derived.Shelf.SlicesE.Delete
namespace Go.Proofs.Ytnomnhlfenhjdaa
open Go.RowKit Go.Shelf
set_option linter.unusedVariables false

def l46_ren : Go.Shelf.Ren := ⟨fun | 45 => 46 | n => n, fun | 22 => 90 | 23 => 68 | n => n, fun n => n⟩
set_option maxRecDepth 100000 in
theorem l46 : SlLaysE.n45 Try.prog l46_ren where
  mixed := by kernel_rfl
  f45 := ⟨"slices.Delete[[][]byte,[]byte]", by decide, Try.func46.trans (congrArg some (by kernel_rfl))⟩
  t0 := Try.underlying0
  a0 := Try.isAgg0
  z0 := Try.sizeOf0
  v0 := Try.zeroValue0
  t3 := Try.underlying3
  a3 := Try.isAgg3
  z3 := Try.sizeOf3
  v3 := Try.zeroValue3
  t4 := Try.underlying4
  a4 := Try.isAgg4
  z4 := Try.sizeOf4
  v4 := Try.zeroValue4
  t22 := Try.underlying90
  a22 := Try.isAgg90
  z22 := Try.sizeOf90
  v22 := Try.zeroValue90
  a23 := Try.isAgg68
  z23 := Try.sizeOf68

/-- What a slice value is made of. -/
abbrev Sl := Option Addr × Nat × Nat
instance : Inhabited Sl := ⟨(none, 0, 0)⟩
def encS (x : Sl) : Value := .slice x.1 x.2.1 x.2.2
theorem oneS : Go.Proofs.OneCell encS := fun _ => rfl

theorem heap_mapBlock_same {w : World} {b : Nat} {f : Array Value → Array Value} {c : Array Value} {e : TypeId} {fr : Nat × Nat} (h : w.heap[b]? = some (.cells c e fr)) : (Sort.mapBlock w b f).heap[b]? = some (.cells (f c) e fr) := by
  show (w.heap.modify b _)[b]? = _
  rw [Array.getElem?_modify, if_pos rfl, h]
  rfl
theorem heap_mapBlock_other {w : World} {b k : Nat} {f : Array Value → Array Value} (h : k ≠ b) : (Sort.mapBlock w b f).heap[k]? = w.heap[k]? := by
  show (w.heap.modify b _)[k]? = _
  rw [Array.getElem?_modify, if_neg (fun e => h e.symm)]

theorem put_val (es : List Sl) (i j : Nat) (hi : i < es.length) (hj : j < es.length - 1) : (es.eraseIdx i)[j]? = some ((es.toArray.toList.take i ++ es.toArray.toList.drop (i + 1) ++ List.replicate (i + 1 - i) ((none, 0, 0) : Sl)).toArray[j]!) := by
  have hl : (es.eraseIdx i).length = es.length - 1 := List.length_eraseIdx_of_lt hi
  have he : es.toArray.toList.take i ++ es.toArray.toList.drop (i + 1) = es.eraseIdx i := by rw [List.eraseIdx_eq_take_drop_succ]
  rw [he, List.getElem?_eq_getElem (by omega)]
  congr 1
  rw [getElem!_pos _ j (by simp; omega)]
  simp [show j < (es.eraseIdx i).length by omega]
theorem delete_any (B : Nat) (v : Value) (es : List Sl) (i : Nat) (hi : i < es.length) (w : World) (h : OwnAt B w 68 v (es.map encS)) :
    Calls Try.prog 46 #[v, .int .i64 (i : Int), .int .i64 ((i : Int) + 1)] w fun e w' => ∃ v', e = .returned v' ∧ OwnAt B w' 68 v' ((es.eraseIdx i).map encS) ∧ (∀ S, (∀ g, v.ownBlock = some g → g ∈ S) → Step S w w') ∧ v'.ownBlock = v.ownBlock := by
  rcases h with ⟨rfl, hn⟩ | ⟨g, off, cap, cur, rfl, hb, hg, h1, h2, h3, h4⟩
  · have : es = [] := by simpa using hn
    subst this; simp at hi
  · rw [List.length_map] at h1 h4 ⊢
    obtain ⟨i0, hi0, hz0, hz1, hz2⟩ := info_parts info68
    have hH : Sort.Holds encS w g off es.toArray := by
      intro j hj
      have hj' : j < es.length := by simpa using hj
      refine ⟨cells_cell hg ((h4 j hj').trans ?_), cells_frozen hg⟩
      rw [List.getElem?_map, List.getElem?_eq_getElem hj']
      simp [hj']
    have hcon := AnyE.slices_Delete l46 encS oneS (none, 0, 0) (fun w => Try.zeroValue68 w) i0 hi0 hz1 g off cap i (i + 1) es.toArray w hH (by simpa using h1) (by unfold maxLen at h2; omega) (by omega) (by simp; omega)
    change Calls Try.prog 46 _ _ _ at hcon
    have hsz : es.toArray.size = es.length := by simp
    rw [hsz] at hcon
    refine hcon.mono ?_
    rintro e w' ⟨rfl, q, rfl⟩
    have hlen : es.length - (i + 1 - i) = (es.eraseIdx i).length := by rw [List.length_eraseIdx_of_lt hi]; omega
    have hA : (Sort.ahead w q).heap[g]? = some (.cells cur 68 (0, 0)) := hg
    refine ⟨_, rfl, .inr ⟨g, off, cap, _, by rw [List.length_map, hlen], hb, heap_mapBlock_same hA, by rw [List.length_map, ← hlen]; omega, h2, by simp [Sort.putCells]; omega, fun j hj => ?_⟩, fun S hS => ?_, rfl⟩
    · rw [List.length_map, List.length_eraseIdx_of_lt hi] at hj
      have hjc : off + j < cur.size := by omega
      have hsz2 : (es.toArray.toList.take i ++ es.toArray.toList.drop (i + 1) ++ List.replicate (i + 1 - i) ((none, 0, 0) : Sl)).toArray.size = es.length := by simp; omega
      simp only [Sort.putCells, Array.getElem?_mapIdx]
      rw [Array.getElem?_eq_getElem hjc, Option.map_some, if_pos ⟨by omega, by rw [hsz2]; omega⟩, List.getElem?_map, show off + j - off = j by omega, put_val es i j hi hj]
      rfl
    · refine ⟨rfl, rfl, rfl, by simp, fun k hk hS' => ?_, fun k o hk ho hx => ?_⟩
      · exact heap_mapBlock_other (fun e => hS' (e ▸ hS g rfl))
      · refine (heap_mapBlock_other (fun e => ?_)).trans hk
        subst e
        rw [hg] at hk
        cases hk
        cases ho
end Go.Proofs.Ytnomnhlfenhjdaa
