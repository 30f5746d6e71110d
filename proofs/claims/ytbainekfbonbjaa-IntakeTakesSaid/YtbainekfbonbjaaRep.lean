/- bytes.Repeat of one byte, few times; intake's payload. No statement is proved here; nothing is assumed. -/
import Derived.Test.YtbainekfbonbjaaIntJ
import Derived.Laws.CopyRow
import Derived.Lib.MakeNoZero
namespace Go.Proofs.Ytbainekfbonbjaa
open Go.RowKit Go.Shelf
set_option linter.unusedVariables false
set_option linter.unusedSimpArgs false
attribute [local go_sem] Oper.semAt_some

set_option maxRecDepth 100000 in
theorem mul64_few (m : Nat) (h : m < 7) (w : World) : Calls Try.prog 123 #[.int .u64 1, .int .u64 (m : Int)] w fun e w' => e = .returned (.tuple #[.int .u64 0, .int .u64 (m : Int)]) ∧ w = w' := by
  have hm : m = 0 ∨ m = 1 ∨ m = 2 ∨ m = 3 ∨ m = 4 ∨ m = 5 ∨ m = 6 := by omega
  rcases hm with rfl | rfl | rfl | rfl | rfl | rfl | rfl
  all_goals
    clear h
    go_enter Try.func123, Try.ntmps123
    go_wp2
    go_ret2
    exact ⟨rfl, rfl⟩
set_option maxRecDepth 100000 in
theorem mul_few (m : Nat) (h : m < 7) (w : World) : Calls Try.prog 117 #[.int .u64 1, .int .u64 (m : Int)] w fun e w' => e = .returned (.tuple #[.int .u64 0, .int .u64 (m : Int)]) ∧ w = w' := by
  have H := Lib.hid (mul64_few m h)
  clear h
  go_enter Try.func117, Try.ntmps117
  go_wp2_with (go_at_call 123; refine (H.out _).mono ?_; rintro e w' ⟨rfl, rfl⟩)
  go_ret2
  exact ⟨rfl, rfl⟩
theorem func118' : Try.prog.funcs[118]? = some Try.f118 := by kernel_rfl
set_option maxRecDepth 100000 in
theorem makeNoZero_run (m : Nat) (h : m < 1000) (w : World) : ∃ w' cs, (callFunc 118 #[.int .i64 (m : Int)]).run Try.prog w = .ok (.value (.slice (some ⟨w.heap.size, 0, none⟩) m cs)) w' ∧ m ≤ cs ∧ cs ≤ maxLen ∧ Step [] w w' ∧ ∃ cur, w'.heap[w.heap.size]? = some (.cells cur 5 (0, 0)) ∧ cur.size = cs := by
  obtain ⟨cs, hrun, h1, h2⟩ := Lib.run_makeNoZero (P := Try.prog) w #[3] 71 5 Try.underlying71 m (by omega)
  refine ⟨w.drew.drew.alloc (.cells cs 5), cs.size, ?_, h1, h2 (by unfold maxLen; omega), (Step.drew w).trans ((Step.drew _).trans (Step.alloc _ _)), cs, World.alloc_heap_new w.drew.drew (.cells cs 5), rfl⟩
  rw [run_callFunc_extern func118' (by kernel_rfl) (by kernel_rfl) (by kernel_rfl) (e := Extern.BytealgMakeNoZero.makeNoZero #[3] #[71]) (by kernel_rfl), hrun]
  rfl
theorem Step.setRow {w W : World} {g : Nat} {cur : Array Value} {t : TypeId} {fr : Nat × Nat} (h : Step [] w W) (hg : W.heap[g]? = some (.cells cur t fr)) (hB : w.heap.size ≤ g) (cs : Array Value) : Step [] w (W.setRow g cs) :=
  ⟨h.os, h.tape, h.output, by rw [setRow_size]; exact h.size, fun k hk hS => (setRow_other W g k cs (by omega)).trans (h.same k hk hS), fun k o hk ho hx => (setRow_other W g k cs (by have := heap_lt hk; omega)).trans (h.book k o hk ho hx)⟩
/-- A row of m cells at least, of which the first n bear x. -/
def Filled (w : World) (g m n : Nat) (x : Value) (W : World) : Prop := w.heap.size ≤ g ∧ Step [] w W ∧ ∃ cur, W.heap[g]? = some (.cells cur 5 (0, 0)) ∧ m ≤ cur.size ∧ ∀ j, j < n → cur[j]? = some x
theorem info5s : (Try.prog.info? 5).map (·.size) = some 1 := by kernel_rfl
theorem add_lit0 (b off i : Nat) : (⟨b, off, none⟩ : Addr).add i = ⟨b, off + i, none⟩ := add_plain'
/-- k cells more, read from a at the same world. -/
theorem Filled.copy {w W : World} {g m n k dCap sCap sLen dLen : Nat} {x : Value} {a : Addr} (h : Filled w g m n x W) (hx : x.oneCell' = true) (hk : n + k ≤ m) (hmin : k = Nat.min sLen dLen) (hs : ∀ j, j < k → W.cell? (a.add j) = some x) (ty : TypeId) :
    ∃ W', (Builtin.copy_ #[71, 71] ty #[.slice (some ⟨g, n, none⟩) dLen dCap, .slice (some a) sLen sCap]).run Try.prog W = .ok (.int .i64 (k : Int)) W' ∧ Filled w g m (n + k) x W' := by
  obtain ⟨hB, hst, cur, hg, hm, hc⟩ := h
  have hr := run_copy_row (P := Try.prog) W 71 71 ty 5 g n dLen dCap a sLen sCap cur 5 (List.replicate k x) Try.underlying71 info5s hg (by simpa using hmin) (fun j v hj => by
    have hjk : j < k := by have := (List.getElem?_eq_some_iff.1 hj).1; simpa using this
    rw [List.getElem?_replicate, if_pos hjk] at hj
    cases hj
    exact hs j hjk) (by simp; omega) (fun v hv => by rw [List.eq_of_mem_replicate hv]; exact hx)
  rw [List.length_replicate] at hr
  refine ⟨_, hr, hB, hst.setRow hg hB _, _, setRow_heap W g cur _ 5 _ hg, by simp; omega, fun j hj => ?_⟩
  rw [List.getElem?_toArray]
  by_cases h1 : j < n
  · rw [List.append_assoc, List.getElem?_append_left (by simp; omega), List.getElem?_take, if_pos h1]
    simpa using hc j h1
  · rw [List.append_assoc, List.getElem?_append_right (by simp; omega), List.getElem?_append_left (by simp; omega), List.getElem?_replicate, if_pos (by simp; omega)]
theorem size5 (w : World) : (sizeOf 5).run Try.prog w = .ok 1 w := by kernel_rfl
theorem elem71 : Try.prog.elem 71 = 5 := by kernel_rfl
theorem slice_hm (W : World) (g m cs : Nat) (hm : m ≤ cs) : (Instr.slice 71 (.slice (some ⟨g, 0, none⟩) m cs) none (some (.int .i64 (m : Int))) (some (.int .i64 (m : Int)))).run Try.prog W = .ok (.slice (some ⟨g, 0, none⟩) m m) W := by
  rw [run_slice_hm W 71 _ _ _ (by rw [elem71]; exact Try.underlying71) .i64 .i64 _ _ (by omega) (by omega) (by omega), elem71, size5]
  simp [Result.andThen, sliced, add_plain']
theorem slice_l (W : World) (g m n : Nat) (hm : n < m) : (Instr.slice 71 (.slice (some ⟨g, 0, none⟩) m m) (some (.int .i64 (n : Int))) none none).run Try.prog W = .ok (.slice (some ⟨g, n, none⟩) (m - n) (m - n)) W := by
  rw [run_slice_l W 71 _ _ _ (by rw [elem71]; exact Try.underlying71) .i64 _ (by omega) (by omega), elem71, size5]
  have h0 : ¬ m = n := by omega
  simp [Result.andThen, sliced, h0, add_plain']
theorem slice_h (W : World) (g m n : Nat) (hm : n ≤ m) : (Instr.slice 71 (.slice (some ⟨g, 0, none⟩) m m) none (some (.int .i64 (n : Int))) none).run Try.prog W = .ok (.slice (some ⟨g, 0, none⟩) n m) W := by
  rw [run_slice_h W 71 _ _ _ (by rw [elem71]; exact Try.underlying71) .i64 _ (by omega) (by omega), elem71, size5]
  simp [Result.andThen, sliced, add_plain']
theorem Filled.cell {w W : World} {g m n j : Nat} {x : Value} (h : Filled w g m n x W) (hj : j < n) : W.cell? ⟨g, j, none⟩ = some x := by
  obtain ⟨_, _, cur, hg, _, hc⟩ := h
  exact cells_cell hg (hc j hj)
set_option maxRecDepth 100000 in
set_option maxHeartbeats 4000000 in
theorem repeat_any (m b c : Nat) (x : Nat) (h1 : 1 ≤ m) (h : m < 7) (w : World) (hc : w.cell? ⟨b, 0, none⟩ = some (.int .u8 (x : Int))) :
    Calls Try.prog 106 #[.slice (some ⟨b, 0, none⟩) 1 c, .int .i64 (m : Int)] w fun e w' => ∃ g, e = .returned (.slice (some ⟨g, 0, none⟩) m m) ∧ Filled w g m m (.int .u8 (x : Int)) w' := by
  have t1 : ((m : Int) == 0) = false := by simp; omega
  have t2 : ((m : Int) < 0) = False := by simp
  have t3 : IntKind.u64.wrap (m : Int) = (m : Int) := by rw [IntKind.wrap_u64]; omega
  have t4 : IntKind.i64.wrap (m : Int) = (m : Int) := by rw [IntKind.wrap_i64]; omega
  have t5 : ((8192 : Int) < (m : Int)) = False := by simp; omega
  have t6 : ((9223372036854775807 : Int) < (m : Int)) = False := by simp; omega
  have HMU := Lib.hid (mul_few m h)
  have HC := Lib.hid hc
  have HH := Lib.hid (And.intro h1 h)
  obtain ⟨w1, cs, hcall, hcs1, hcs2, hs1, cur, hcur, hcz⟩ := makeNoZero_run m (by omega) w
  have hsl := fun W => slice_hm W w.heap.size m cs hcs1
  have hF0 : Filled w w.heap.size m 0 (.int .u8 (x : Int)) w1 := ⟨Nat.le_refl _, hs1, cur, hcur, by omega, fun j hj => by omega⟩
  obtain ⟨w2, hcp, hF1⟩ := hF0.copy (k := 1) (dCap := m) (sCap := c) (sLen := 1) (dLen := m) (a := ⟨b, 0, none⟩) rfl (by omega) (by show 1 = min 1 m; omega) (fun j hj => by
    obtain rfl : j = 0 := by omega
    rw [add_lit0]
    exact step_cell hs1 hc) 3
  have H1 := Lib.hid hF1
  clear hF0 hF1 hc hs1 hcur hcs1 hcs2 hcz h1 h
  go_enter Try.func106, Try.ntmps106
  go_wp2_with (go_at_call 117; refine (HMU.out _).mono ?_; rintro e w' ⟨rfl, rfl⟩)
  clear hcall hsl hcp t1 t2 t3 t4 t5 t6 HMU
  obtain ⟨g, hg⟩ : ∃ g, g = w.heap.size := ⟨_, rfl⟩
  rw [← hg] at H1 ⊢
  clear hg
  go_loopw [10] (fun i wr => ∃ n : Nat, 1 ≤ n ∧ n ≤ m ∧ i = .int .i64 (n : Int) ∧ Hid (Filled w g m n (.int .u8 (x : Int)) wr)) (fun i wr => m - (intOf i).toNat)
  case atStart => exact ⟨1, by omega, HH.out.1, rfl, H1.out⟩
  case round =>
    obtain ⟨n, hn1, hnm, rfl, hF⟩ := hrel
    clear H1
    by_cases hlt : n < m
    · have s1 : ((n : Int) < (m : Int)) = True := by simp; omega
      have s2 : ((m : Int) < (n : Int)) = False := by simp; omega
      obtain ⟨k, hk⟩ : ∃ k, k = Nat.min n (m - n) := ⟨_, rfl⟩
      have hk2 : k ≤ n ∧ n + k ≤ m ∧ 1 ≤ k := by
        have : k = min n (m - n) := hk
        omega
      have hFd : Filled w g m n (.int .u8 (x : Int)) wr.drew := by
        obtain ⟨e1, e2, cur', e3, e4, e5⟩ := hF.out
        exact ⟨e1, e2.trans (Step.drew wr), cur', e3, e4, e5⟩
      obtain ⟨w3, hcp, hF3⟩ := hFd.copy (k := k) (dCap := m - n) (sCap := m) (sLen := n) (dLen := m - n) (a := ⟨g, 0, none⟩) rfl hk2.2.1 hk (fun j hj => by rw [add_lit0, Nat.zero_add]; exact hFd.cell (by omega)) 3
      have s3 : IntKind.i64.wrap ((n : Int) + (k : Int)) = (n : Int) + (k : Int) := by have := HH.out; rw [IntKind.wrap_i64]; omega
      have s4 := slice_l wr.drew g m n hlt
      have s5 := slice_h wr.drew g m n hnm
      have H3 := Lib.hid hF3
      have HK := Lib.hid hk2
      clear hFd hF3 hk hF hk2
      go_wp2_with fail
      go_region_held3 (fun _ => True) (exact trivial) (fail)
      go_wp2
      go_roundw
      case rel => exact ⟨n + k, by omega, HK.out.2.1, by go_num, H3.out⟩
      case measure =>
        have := HK.out
        simp [intOf]
        omega
    · obtain rfl : n = m := by omega
      have s1 : ((n : Int) < (n : Int)) = False := by simp
      go_wp2
      go_ret
      exact ⟨_, rfl, hF.out⟩
end Go.Proofs.Ytbainekfbonbjaa
