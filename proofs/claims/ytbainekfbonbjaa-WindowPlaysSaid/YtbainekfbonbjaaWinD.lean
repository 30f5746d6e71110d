/- window: Due. No statement is proved here; nothing is assumed. -/
import Derived.Test.YtbainekfbonbjaaWinC
import Derived.Deep.CutRange
namespace Go.Proofs.Ytbainekfbonbjaa
open Go.RowKit Go.Shelf
set_option linter.unusedVariables false
set_option linter.unusedSimpArgs false
attribute [local go_sem] Oper.semAt_some

/-- What Due makes of an item. -/
def dueX (a z now : Nat) (x : Rec6) : Rec6 := if x.2.2 ≤ now then (x.1, x.2.1 + 1, now + waitN a z (x.2.1 + 1)) else x
def dueG (a z now : Nat) (g : Kept6) : Kept6 := fun k => (g k).map (dueX a z now)
def midG (a z now : Nat) (g : Kept6) (l : List Nat) : Kept6 := fun k => if k ∈ l then dueG a z now g k else g k
/-- What Due tells: a number, its payload, its tries. -/
abbrev Out6 := Nat × List Nat × Nat
def dueOne (now : Nat) (g : Kept6) (k : Nat) : Option Out6 := match g k with | some x => if x.2.2 ≤ now then some (k, x.1, x.2.1 + 1) else none | none => none
def dueOf (now : Nat) (g : Kept6) (l : List Nat) : List Out6 := l.filterMap (dueOne now g)
def dueL (now : Nat) (g : Kept6) (u : Nat) : List Out6 := dueOf now g (keysG g u)
def cells3 (E : List (Nat × Value × Nat)) : List Value := E.flatMap fun q => [.int .u32 (q.1 : Int), q.2.1, .int .i64 (q.2.2 : Int)]
theorem cells3_len (E : List (Nat × Value × Nat)) : (cells3 E).length = E.length * 3 := by
  induction E with
  | nil => rfl
  | cons q t ih => simp [cells3] at ih ⊢; omega
theorem cells3_snoc (E : List (Nat × Value × Nat)) (q : Nat × Value × Nat) : cells3 (E ++ [q]) = cells3 E ++ [.int .u32 (q.1 : Int), q.2.1, .int .i64 (q.2.2 : Int)] := by simp [cells3]
/-- No two of them have one payload block. -/
def Apart (E : List (Nat × Value × Nat)) : Prop := E.Pairwise fun e e' => ∀ g, e.2.1.ownBlock = some g → e'.2.1.ownBlock ≠ some g
/-- The slice that Due hands back. -/
def OutAt (B : Nat) (W : World) (v : Value) (D : List Out6) : Prop := ∃ E : List (Nat × Value × Nat), W.ownsRow B 81 3 v D.length (cells3 E) ∧ E.length = D.length ∧ (∀ (i : Nat) e d, E[i]? = some e → D[i]? = some d → e.1 = d.1 ∧ e.2.2 = d.2.2 ∧ PayAt B W e.2.1 d.2.1) ∧ Apart E
theorem OutAt.nil (B : Nat) (W : World) : OutAt B W (.slice none 0 0) [] := ⟨[], World.ownsRow_nil _ _ _ _, rfl, by simp, List.Pairwise.nil⟩
theorem OutAt.step {B : Nat} {W W' : World} {v : Value} {D : List Out6} {S : List Nat} (h : OutAt B W v D) (hs : Step S W W') (hS : ∀ i ∈ S, (∀ cur, W.heap[i]? ≠ some (.cells cur 5 (0, 0))) ∧ (∀ cur, W.heap[i]? ≠ some (.cells cur 81 (0, 0)))) : OutAt B W' v D := by
  obtain ⟨E, h1, h2, h3, h4⟩ := h
  refine ⟨E, row_step h1 hs (fun g hg hm => ?_), h2, fun i e d he hd => ?_, h4⟩
  · rcases h1.2 with ⟨h0, _⟩ | ⟨g', cap, cur, h0, _, hg', _⟩
    · rw [h0] at hg; cases hg
    · rw [h0] at hg; cases hg
      exact (hS _ hm).2 _ hg'
  · obtain ⟨e1, e2, e3⟩ := h3 i e d he hd
    exact ⟨e1, e2, e3.1.step hs (fun g hg hm => by obtain ⟨cur, hc⟩ := e3.block hg; exact (hS g hm).1 cur hc), e3.2⟩
theorem OutAt.same {B : Nat} {W W' : World} {v : Value} {D : List Out6} (h : OutAt B W v D) (hs : Step [] W W') : OutAt B W' v D := h.step hs (by simp)
theorem OutAt.form {B : Nat} {W : World} {v : Value} {D : List Out6} (h : OutAt B W v D) : ∃ q c, v = .slice q D.length c ∧ D.length ≤ c ∧ c ≤ maxLen := by
  obtain ⟨E, ⟨hl, h1⟩, _⟩ := h
  rcases h1 with ⟨h1, h2⟩ | ⟨g, cap, cur, h1, _, _, h3, h4, _⟩
  · exact ⟨none, 0, by rw [h1, h2], by omega, by simp [maxLen]⟩
  · exact ⟨_, cap, h1, h3, h4⟩
set_option maxRecDepth 100000 in
theorem info81 : (Try.prog.info? 81).map (fun i => (i.zero, i.size, i.bytes)) = some (some (.agg #[.int .u32 0, .slice none 0 0, .int .i64 0]), 3, 40) := by kernel_rfl
set_option maxRecDepth 100000 in
theorem zero135 (w : World) : (zeroValue 135).run Try.prog w = .ok (.agg #[.int .u32 0, .slice none 0 0, .int .i64 0, .int .i64 0]) w := by kernel_rfl
theorem row_cell6 {W : World} {B size n i : Nat} {e : TypeId} {v x : Value} {xs : List Value} (h : W.ownsRow B e size v n xs) (hx : xs[i]? = some x) :
    ∃ g cap, v = .slice (some ⟨g, 0, none⟩) n cap ∧ n ≤ cap ∧ cap ≤ maxLen ∧ W.cell? ⟨g, i, none⟩ = some x ∧ W.frozen? ⟨g, i, none⟩ = false := by
  obtain ⟨hl, ⟨rfl, rfl⟩ | ⟨g, cap, cur, rfl, hb, hg, h1, h2, h3, h4⟩⟩ := h
  · have h0 : xs = [] := List.eq_nil_of_length_eq_zero (by simpa using hl)
    rw [h0] at hx; simp at hx
  · refine ⟨g, cap, rfl, h1, h2, cells_cell hg ?_, cells_frozen hg⟩
    have hi := (List.getElem?_eq_some_iff.1 hx).1
    rw [← h4, List.getElem?_take, if_pos (by omega)] at hx
    simpa using hx

theorem midG_nil (a z now : Nat) (g : Kept6) : midG a z now g [] = g := by funext k; simp [midG]
theorem dueOf_snoc (now : Nat) (g : Kept6) (l : List Nat) (k : Nat) : dueOf now g (l ++ [k]) = dueOf now g l ++ (dueOne now g k).toList := by
  unfold dueOf
  rw [List.filterMap_append]
  congr 1
theorem midG_skip {a z now k : Nat} {g : Kept6} {l : List Nat} {x : Rec6} (hx : g k = some x) (h : ¬ x.2.2 ≤ now) : midG a z now g (l ++ [k]) = midG a z now g l := by
  funext j
  unfold midG
  by_cases hj : j ∈ l
  · rw [if_pos (List.mem_append_left _ hj), if_pos hj]
  · rw [if_neg hj]
    by_cases e : j = k
    · subst e
      rw [if_pos (by simp)]
      unfold dueG dueX
      rw [hx]
      simp [h]
    · rw [if_neg (by simp; exact ⟨hj, e⟩)]
theorem midG_go {a z now k : Nat} {g : Kept6} {l : List Nat} {x : Rec6} (hx : g k = some x) : midG a z now g (l ++ [k]) = setG (midG a z now g l) k (some (dueX a z now x)) := by
  funext j
  unfold midG setG
  dsimp only
  by_cases e : j = k
  · subst e
    rw [if_pos (by simp), if_pos rfl]
    unfold dueG
    rw [hx]; rfl
  · rw [if_neg e]
    by_cases hj : j ∈ l
    · rw [if_pos (List.mem_append_left _ hj), if_pos hj]
    · rw [if_neg hj, if_neg (by simp; exact ⟨hj, e⟩)]
theorem take_snoc {ys : List Nat} {j k : Nat} (h : ys[j]? = some k) : ys.take (j + 1) = ys.take j ++ [k] := by
  rw [List.take_add_one, h]; rfl
/-- What Due's rounds keep. -/
def DueAt (B : Nat) (w : World) (b sp bm u lim a z now : Nat) (n : Ents) (g : Kept6) (ys : List Nat) (yv : Value) (j : Nat) (v : Value) (W : World) : Prop :=
  ∃ M', WinM B W b sp bm u lim a z M' (midG a z now g (ys.take j)) ∧ M'.length = n.length ∧ W.ownsRow w.heap.size 22 1 yv ys.length (n32 ys) ∧ OutAt w.heap.size W v (dueOf now g (ys.take j)) ∧ Step [bm] w W ∧ PaySub n M'
theorem DueAt.same {B : Nat} {w W W' : World} {b sp bm u lim a z now j : Nat} {n : Ents} {g : Kept6} {ys : List Nat} {yv v : Value} (h : DueAt B w b sp bm u lim a z now n g ys yv j v W) (hs : Step [] W W') : DueAt B w b sp bm u lim a z now n g ys yv j v W' := by
  obtain ⟨M', h1, h2, h3, h4, h5, h6⟩ := h
  exact ⟨M', h1.same hs, h2, row_step h3 hs (by simp), h4.same hs, h5.trans hs.nil_mono, h6⟩
theorem DueAt.skip {B : Nat} {w W : World} {b sp bm u lim a z now j k : Nat} {n : Ents} {g : Kept6} {ys : List Nat} {yv v : Value} {x : Rec6} (h : DueAt B w b sp bm u lim a z now n g ys yv j v W) (hk : ys[j]? = some k) (hx : g k = some x) (hl : ¬ x.2.2 ≤ now) : DueAt B w b sp bm u lim a z now n g ys yv (j + 1) v W := by
  obtain ⟨M', h1, h2, h3, h4, h5, h6⟩ := h
  refine ⟨M', by rw [take_snoc hk, midG_skip hx hl]; exact h1, h2, h3, ?_, h5, h6⟩
  rw [take_snoc hk, dueOf_snoc, show dueOne now g k = none by unfold dueOne; rw [hx]; simp; omega]
  simpa using h4
theorem keysG_congr {g g' : Kept6} {u : Nat} (h : ∀ k, (g k).isSome = (g' k).isSome) : keysG g u = keysG g' u := by
  unfold keysG
  congr 1
  funext k
  rw [h k]
theorem row_type {B : Nat} {W : World} {e : TypeId} {size n : Nat} {v : Value} {xs : List Value} (h : W.ownsRow B e size v n xs) : ∀ i ∈ v.ownBlock.toList, B ≤ i ∧ ∃ cur, W.heap[i]? = some (.cells cur e (0, 0)) := by
  intro i hi
  rcases h.2 with ⟨h1, _⟩ | ⟨g', cap', cur, h1, hb, hg', _⟩
  · rw [h1] at hi; simp [Value.ownBlock] at hi
  · rw [h1] at hi; simp [Value.ownBlock] at hi; subst hi; exact ⟨hb, cur, hg'⟩
theorem midG_all {a z now u : Nat} {g : Kept6} (h : ∀ k x, g k = some x → k < u) : midG a z now g (keysG g u) = dueG a z now g := by
  funext k
  unfold midG
  by_cases hk : k ∈ keysG g u
  · rw [if_pos hk]
  · rw [if_neg hk]
    have : g k = none := by
      cases e : g k with
      | none => rfl
      | some x => exact absurd (mem_keysG.2 ⟨h k x e, by rw [e]; rfl⟩) hk
    unfold dueG
    rw [this]; rfl
theorem new_cells3 {w : World} {h : Nat} {a b c : Value} {t : TypeId} (hh : w.heap.size = h) : ∀ (j : Nat) u, [a, b, c][j]? = some u → (w.alloc (.cells #[a, b, c] t)).cell? ((⟨h, 0, none⟩ : Addr).add j) = some u := by
  intro j u hu
  rw [add_plain', Nat.zero_add]
  subst hh
  exact cells_cell (by rw [heap_alloc_get, if_pos rfl]) (by simpa using hu)
theorem rowForm6 {w : World} {B size : Nat} {t : TypeId} {v : Value} {k : Nat} {xs : List Value} (h : w.ownsRow B t size v (k + 1) xs) : ∃ q n, v = .slice q (k + 1) n := by
  obtain ⟨_, ⟨_, h⟩ | ⟨g, cap, cur, rfl, _⟩⟩ := h
  · omega
  · exact ⟨_, _, rfl⟩
theorem DueAt.next {B : Nat} {w wr X w5 Z1 w' : World} {b sp bm u lim a z now j k t at' t1 at2 n5 : Nat} {n M' : Ents} {g : Kept6} {ys p : List Nat} {yv v5 v' v6 pl : Value} {E : List (Nat × Value × Nat)}
    (hB : B ≤ w.heap.size) (hW : WinM B wr b sp bm u lim a z M' (midG a z now g (ys.take j))) (hML : M'.length = n.length) (hrow : wr.ownsRow w.heap.size 22 1 yv ys.length (n32 ys))
    (hE : wr.ownsRow w.heap.size 81 3 v5 n5 (cells3 E)) (hEl : E.length = (dueOf now g (ys.take j)).length) (hEn : n5 = E.length)
    (hEx : (∀ (i : Nat) e d, E[i]? = some e → (dueOf now g (ys.take j))[i]? = some d → e.1 = d.1 ∧ e.2.2 = d.2.2 ∧ PayAt w.heap.size wr e.2.1 d.2.1) ∧ Apart E)
    (hst : Step [bm] w wr ∧ PaySub n M') (hv : (k, .agg #[.int .u32 (k : Int), pl, .int .i64 (t : Int), .int .i64 (at' : Int)]) ∈ M') (hk : ys[j]? = some k) (hx : g k = some (p, t, at')) (hnk : k ∉ ys.take j) (hat : ¬ now < at') (hpay5 : PayAt B w5 pl p)
    (hA : Step [] wr X) (hm5 : MapV w5 bm (putE M' k (.agg #[.int .u32 (k : Int), pl, .int .i64 (t1 : Int), .int .i64 (at2 : Int)]))) (hB5 : Step [bm] X w5) (hC : Step [] w5 Z1) (ho5 : OwnAt w5.heap.size Z1 5 v6 (u8s p))
    (hw' : w'.ownsRow w.heap.size 81 3 v' (n5 + 1) (cells3 E ++ [.int .u32 (k : Int), v6, .int .i64 (t1 : Int)])) (hD : Step v5.ownBlock.toList Z1 w') (ht1 : t1 = t + 1) (hat2 : at2 = now + waitN a z t1) :
    DueAt B w b sp bm u lim a z now n g ys yv (j + 1) v' w' := by
  have hmid : midG a z now g (ys.take j) k = some (p, t, at') := by unfold midG; rw [if_neg hnk]; exact hx
  have hAB0 : Step [bm] wr w5 := hA.nil_mono.trans hB5
  have ho : OwnAt w.heap.size Z1 5 v6 (u8s p) := OwnAt.low ho5 (by have := hst.1.size; have := hAB0.size; omega)
  have hku : k < u := hW.kb k _ hmid
  have hne := hW.ne
  have hAB : Step [bm] wr w5 := hA.nil_mono.trans hB5
  obtain ⟨es, clk, hbm⟩ := hW.m.block
  have hbmX := obj_step hbm hA (by simp)
  have hW5 : WinM B w5 b sp bm u lim a z (putE M' k (.agg #[.int .u32 (k : Int), pl, .int .i64 (t1 : Int), .int .i64 (at2 : Int)])) (setG (midG a z now g (ys.take j)) k (some (p, t1, at2))) :=
    ⟨obj_step hW.o hAB (by simp; exact hne.2.1), obj_step hW.s hAB (by simp; exact hne.2.2), hW.lo, hm5, (hW.r.mono fun k v x _ hi => hi.step hAB (fun i hi cur hc => by simp at hi; subst hi; rw [hbm] at hc; cases hc)).put ⟨pl, rfl, hpay5⟩, hW.ul, hW.az,
      fun i x hi => by
        by_cases e : i = k
        · rw [e]; exact hku
        · rw [setG_other _ _ e] at hi; exact hW.kb i x hi⟩
  have hrow5 := row_step hE hAB (fun g hg hm => by
    simp at hm
    obtain ⟨_, cur, hc⟩ := row_type hE g (by simp [hg])
    rw [hm, hbm] at hc; cases hc)
  have hrowZ := row_step hrow5 hC (by simp)
  have hty := row_type hrowZ
  have hWZ := hW5.same hC
  have hW' := hWZ.step hD (fun i hi => by
    obtain ⟨_, cur, hc⟩ := hty i hi
    refine ⟨fun e => ?_, fun e => ?_, fun e => ?_, fun cur' hc' => ?_⟩
    · have := hWZ.o; rw [← e, hc] at this; unfold winObj at this; cases this
    · have : Z1.heap[sp]? = some (spaceObj 92 u lim) := hWZ.s
      rw [← e, hc] at this; unfold spaceObj at this; cases this
    · obtain ⟨es', c', hb'⟩ := hWZ.m.block
      rw [← e, hc] at hb'; cases hb'
    · rw [hc] at hc'; cases hc')
  have hset : setG (midG a z now g (ys.take j)) k (some (p, t1, at2)) = midG a z now g (ys.take (j + 1)) := by
    rw [take_snoc hk, midG_go hx]
    congr 2
    unfold dueX
    rw [if_pos (by show at' ≤ now; omega), hat2, ht1]
  have hlen : (putE M' k (.agg #[.int .u32 (k : Int), pl, .int .i64 (t1 : Int), .int .i64 (at2 : Int)])).length = M'.length := by
    rw [hW5.len, hW.len]
    congr 1
    refine keysG_congr fun i => ?_
    by_cases e : i = k
    · rw [e, setG_same, hmid]; rfl
    · rw [setG_other _ _ e]
  refine ⟨_, hset ▸ hW', hlen.trans hML, ?_, ?_, ?_, hst.2.put hv _⟩
  · refine row_step (row_step (row_step hrow hAB (fun g hg hm => ?_)) hC (by simp)) hD (fun g hg hm => ?_)
    · simp at hm
      obtain ⟨_, cur, hc⟩ := row_type hrow g (by simp [hg])
      rw [hm, hbm] at hc; cases hc
    · obtain ⟨_, cur, hc⟩ := hty g hm
      obtain ⟨_, cur', hc'⟩ := row_type (row_step (row_step hrow hAB (fun g hg hm => by
        simp at hm
        obtain ⟨_, cur, hc⟩ := row_type hrow g (by simp [hg])
        rw [hm, hbm] at hc; cases hc)) hC (by simp)) g (by simp [hg])
      rw [hc] at hc'; cases hc'
  · have hdue : dueOf now g (ys.take (j + 1)) = dueOf now g (ys.take j) ++ [(k, p, t1)] := by
      rw [take_snoc hk, dueOf_snoc]
      unfold dueOne
      rw [hx]
      simp [show at' ≤ now by omega, ht1]
    rw [hdue]
    refine ⟨E ++ [(k, v6, t1)], ?_, by simp [hEl], fun i e d he hd => ?_, ?_⟩
    · rw [cells3_snoc, List.length_append, ← hEl, ← hEn]
      exact hw'
    · have h5D : ∀ i ∈ v5.ownBlock.toList, ∀ cur, Z1.heap[i]? ≠ some (.cells cur 5 (0, 0)) := fun i hi cur hc => by
        obtain ⟨_, cur', hc'⟩ := hty i hi
        rw [hc] at hc'; cases hc'
      by_cases hi : i < E.length
      · rw [List.getElem?_append_left hi] at he
        rw [List.getElem?_append_left (by omega)] at hd
        obtain ⟨e1, e2, e3⟩ := hEx.1 i e d he hd
        exact ⟨e1, e2, ((e3.1.apart6 hAB (fun i hi cur hc => by simp at hi; subst hi; rw [hbm] at hc; cases hc)).same hC).apart6 hD h5D, e3.2⟩
      · have hil := (List.getElem?_eq_some_iff.1 he).1
        simp at hil
        have hie : i = E.length := by omega
        subst hie
        rw [List.getElem?_append_right (Nat.le_refl _)] at he
        rw [List.getElem?_append_right (by omega), show E.length - (dueOf now g (ys.take j)).length = 0 by omega] at hd
        simp at he hd
        subst he
        subst hd
        exact ⟨rfl, rfl, ho.apart6 hD h5D, hpay5.2⟩
    · refine List.pairwise_append.2 ⟨hEx.2, List.pairwise_singleton _ _, fun e he e' he' gg hgg h6 => ?_⟩
      simp at he'
      subst he'
      have h7 := (ho5.block h6).1
      obtain ⟨i, hi⟩ := List.mem_iff_getElem?.1 he
      have hil := (List.getElem?_eq_some_iff.1 hi).1
      obtain ⟨d, hd⟩ : ∃ d, (dueOf now g (ys.take j))[i]? = some d := ⟨_, List.getElem?_eq_getElem (by omega)⟩
      obtain ⟨_, _, h8⟩ := hEx.1 i e d hi hd
      obtain ⟨_, _, cur, h9⟩ := h8.1.block hgg
      have := heap_lt h9
      have := hAB0.size
      omega
  · refine (((hst.1.trans hAB).trans hC.nil_mono).trans' hD (fun _ h _ => h) (fun i hi hl => ?_))
    have := (hty i hi).1
    omega
set_option maxRecDepth 100000 in
set_option maxHeartbeats 4000000 in
theorem due6_new {m : Nat} (hP : PdqAt m) (hm : m < 256) (B b sp bm u lim a z : Nat) (M : Ents) (g : Kept6) (w : World) (h : WinM B w b sp bm u lim a z M g) (hB : B ≤ w.heap.size) (hM : M.length ≤ m)
    (hT : ∀ k x, g k = some x → x.2.1 < 1000000) (now : Int) (nc : Nat) (hnc : (nc : Int) = max (min now 1099511627776) 0) :
    Calls Try.prog 49 #[.pointer (some ⟨b, 0, none⟩), .int .i64 now] w fun e w' => ∃ v M', e = .returned v ∧ OutAt w.heap.size w' v (dueL nc g u) ∧ WinM B w' b sp bm u lim a z M' (dueG a z nc g) ∧ M'.length = M.length ∧ Step [bm] w w' ∧ PaySub M M' := by
  obtain ⟨i0, hi0, hz0, hz1, hz2⟩ := info_parts info81
  have HN := Lib.hid (none6_any b sp a z bm w h.o)
  obtain ⟨c0, c1, c2, c3⟩ := win_cells h.o
  have H := Lib.hid (And.intro h (And.intro hB (And.intro hM (And.intro hT (And.intro hP hm)))))
  have HN0 := Lib.hid hnc
  have hn40 : (nc : Int) ≤ 1099511627776 := by omega
  clear h hB hM hT hP hm
  go_enter Try.func49, Try.ntmps49
  go_upto_region 3 with (go_at_call 92; refine HN.out.mono ?_; rintro e w' ⟨rfl, hw⟩; cases hw.symm)
  go_cut [1] from 10 (fun s1 wc => s1 = .int .i64 (nc : Int) ∧ wc = w)
  case first =>
    clear hnc hn40
    go_wp2_with fail
    go_meet
    case rel => exact ⟨by rw [HN0.out], rfl⟩
  case rest =>
    obtain ⟨rfl, rfl⟩ := hcut
    clear hnc HN0 now HN
    go_wp2_with (go_at_call 95; refine (keys_any _ _).mono ?_; rintro e w' ⟨rfl, rfl⟩)
    obtain ⟨ys, hys⟩ : ∃ ys, ys = keysG g u := ⟨_, rfl⟩
    have hperm : (M.map Prod.fst).Perm ys := by rw [hys]; exact H.out.1.r.perm H.out.1.kb
    have hsl : Step [] wc (wc.alloc (.cells #[.map (some bm)] 93)) := Step.alloc _ _
    have hbx := Boxed.new wc 93 (.map (some bm))
    have hyl : ys.length = M.length := by have := hperm.length_eq; simp at this; omega
    have HK := Lib.hid (sortedKeys_any H.out.2.2.2.2.1 H.out.2.2.2.2.2 bm wc.heap.size M H.out.2.2.1 ys hperm (by rw [hys]; exact sorted_keysG g u) _ (H.out.1.m.keep hsl (by simp)) hbx)
    have HY := Lib.hid (And.intro hys (And.intro hyl hsl))
    obtain ⟨L, hL⟩ : ∃ L, L = ys.length := ⟨_, rfl⟩
    rw [← hL] at HK
    have hL255 : (L : Int) ≤ 255 := by have := H.out.2.2.1; have := H.out.2.2.2.2.2; omega
    clear hys hperm hsl hbx hyl
    refine HK.out.mono ?_
    clear HK
    rintro e w1 ⟨yv, rfl, hrow, hs1⟩
    obtain ⟨yq, yc, rfl, hyc⟩ : ∃ q c, yv = .slice q L c ∧ L ≤ c := by
      rcases hrow.2 with ⟨h1, h2⟩ | ⟨g', cap, cur, h1, _, _, h3, _⟩
      · exact ⟨none, 0, by rw [h1, h2], by omega⟩
      · exact ⟨_, cap, h1, h3⟩
    have hr0 : w1.ownsRow wc.heap.size 22 1 (.slice yq L yc) L (n32 ys) := by
      obtain ⟨h1, h2 | ⟨g', cap, cur, e1, e2, e3⟩⟩ := hrow
      · exact ⟨h1, .inl h2⟩
      · exact ⟨h1, .inr ⟨g', cap, cur, e1, by simp at e2; omega, e3⟩⟩
    have hs01 := HY.out.2.2.trans hs1
    have h0 : DueAt B wc b sp bm u lim a z nc M g ys (.slice yq L yc) 0 (.slice none 0 0) w1 :=
      ⟨M, by rw [List.take_zero, midG_nil]; exact H.out.1.same hs01, rfl, by rw [← hL]; exact hr0, by simpa [dueOf] using OutAt.nil _ _, hs01.nil_mono, PaySub.refl M⟩
    have H0 := Lib.hid h0
    have HL := Lib.hid hL
    clear h0 hr0 hrow hs1 hs01 hL
    go_wp2_with fail
    go_loopw [5, 22] (fun v5 i wr => ∃ (j n5 c5 : Nat) (q5 : Option Addr), j ≤ L ∧ i = .int .i64 (j : Int) ∧ v5 = .slice q5 n5 c5 ∧ n5 ≤ j ∧ Hid (DueAt B wc b sp bm u lim a z nc M g ys (.slice yq L yc) j (.slice q5 n5 c5) wr)) (fun _ i wr => L - (intOf i).toNat)
    case atStart => exact ⟨0, 0, 0, none, by omega, rfl, rfl, by omega, H0⟩
    case round =>
      clear H0
      obtain ⟨j, n5, c5, q5, hj, rfl, rfl, hnj, hD⟩ := hrel
      by_cases hlt : j < L
      · have hji : (j : Int) < (L : Int) := by omega
        obtain ⟨M', hW, hML, hrow, hout, hst⟩ := hD.out
        obtain ⟨k, hk⟩ : ∃ k, ys[j]? = some k := ⟨_, List.getElem?_eq_getElem (by have := HL.out; omega)⟩
        obtain ⟨gy, yc', e1, hyy1, hyy2, ck, hyf⟩ := row_cell6 hrow (i := j) (x := .int .u32 (k : Int)) (by rw [n32_get, hk]; rfl)
        have hkm := mem_keysG.1 (show k ∈ keysG g u by rw [← HY.out.1]; exact List.mem_of_getElem? hk)
        obtain ⟨⟨p, t, at'⟩, hx⟩ := Option.isSome_iff_exists.1 hkm.2
        have hnk : k ∉ ys.take j := fun hm => by
          obtain ⟨i, hi, hik⟩ := List.mem_take_iff_getElem.1 hm
          have hiy : i < ys.length := by have := HL.out; omega
          have h1 : ys[i]? = some k := by rw [List.getElem?_eq_getElem hiy]; simpa using hik
          have h2 := (List.getElem?_inj hiy (by rw [HY.out.1]; exact nodup_keysG g u)).1 (h1.trans hk.symm)
          omega
        have hmid : midG a z nc g (ys.take j) k = some (p, t, at') := by unfold midG; rw [if_neg hnk]; exact hx
        obtain ⟨v, hv⟩ := hW.r.fro k _ hmid
        obtain ⟨x', hx', pl, rfl, hpay⟩ := hW.r.to k v hv
        rw [hmid] at hx'
        cases hx'
        obtain ⟨pq, pc, rfl, hpc, hpm⟩ := hpay.1.form
        dsimp only at hpay hpc hv
        rw [u8s_length] at hpay hpc hv
        obtain ⟨pn, hpn⟩ : ∃ pn, pn = p.length := ⟨_, rfl⟩
        rw [← hpn] at hpay hpc hv
        have hk32 : k < 4294967296 := by have := H.out.1.ul; omega
        have hlook := hW.m.look Try.underlying93 (zero135 wr) hk32
        have hge := getE_mem hW.r.nd hv (.agg #[.int .u32 0, .slice none 0 0, .int .i64 0, .int .i64 0])
        dsimp only at hge
        rw [hge] at hlook
        clear hge
        obtain ⟨k0, k1, k2, k3⟩ := win_cells hW.o
        have ht6 : t < 1000000 := H.out.2.2.2.1 k _ hx
        have hpcm : (pc : Int) ≤ 9223372036854775807 := by unfold maxLen at hpm; omega
        injection e1 with e1 e2 e3
        subst e1
        subst e3
        have hDD := hD.out.same (Step.alloc wr (.cells #[.int .u32 (k : Int), .slice pq pn pc, .int .i64 (t : Int), .int .i64 (at' : Int)] 135))
        by_cases hat : nc < at'
        · have s1 : ((nc : Int) < (at' : Int)) = True := by simp; omega
          have HS := Lib.hid (hDD.skip hk hx (by simp; omega))
          clear hDD hD hW hML hrow hout hst hk hx hv hpay hpn hnk hmid hkm hpm e2 hyy1 hyy2 hyf hat
          go_wp2_with fail
          go_roundw
          case rel => exact ⟨j + 1, n5, c5, q5, by omega, by go_num, rfl, by omega, HS⟩
          case measure => simp [intOf]; omega
        · have s1 : ((nc : Int) < (at' : Int)) = False := by simp; omega
          have w1' : IntKind.i64.wrap ((t : Int) + 1) = (t : Int) + 1 := by rw [IntKind.wrap_i64]; omega
          have hD2 := Lib.hid (And.intro hW (And.intro hML (And.intro hrow (And.intro hout (And.intro hst (And.intro hk (And.intro hx (And.intro hv (And.intro hpay (And.intro hpn (And.intro hnk hat)))))))))))
          have HO := Lib.hid hW.o
          clear hDD hD hW hML hrow hout hst hk hx hv hpay hpn hnk hmid hkm hpm e2 hyy1 hyy2 hyf hat
          go_upto_region 11 with fail
          obtain ⟨t1, ht1⟩ : ∃ t1 : Nat, t1 = t + 1 := ⟨_, rfl⟩
          rw [show ((t : Int) + 1) = (t1 : Int) by omega]
          have HW96 := Lib.hid (wait6_any b sp a z t1 (some bm) H.out.1.az (by omega) (wr.alloc (.cells #[.int .u32 (k : Int), .slice pq pn pc, .int .i64 (t1 : Int), .int .i64 (at' : Int)] 135)) (obj_step HO.out (Step.alloc (S := []) _ _) (by simp)))
          obtain ⟨wt, hwt⟩ : ∃ wt, wt = waitN a z t1 := ⟨_, rfl⟩
          have hwz : (wt : Int) ≤ 1099511627776 := by have := H.out.1.az; unfold waitN at hwt; omega
          rw [← hwt] at HW96
          have w2 : IntKind.i64.wrap ((nc : Int) + (wt : Int)) = (nc : Int) + (wt : Int) := by rw [IntKind.wrap_i64]; omega
          have HT1 := Lib.hid (And.intro ht1 hwt)
          clear ht1 hwt w1' s1 hlook ck
          go_upto_region 12 with (go_at_call 96; refine HW96.out.mono ?_; rintro e w' ⟨rfl, rfl⟩)
          clear HW96 w2
          obtain ⟨at2, hat2⟩ : ∃ at2 : Nat, at2 = nc + wt := ⟨_, rfl⟩
          rw [show ((nc : Int) + (wt : Int)) = (at2 : Int) by omega]
          obtain ⟨r, hr⟩ : ∃ r, r = wr.heap.size := ⟨_, rfl⟩
          have o8 : (wr.alloc (.cells #[.int .u32 (k : Int), .slice pq pn pc, .int .i64 (t1 : Int), .int .i64 (at2 : Int)] 135)).heap[r]? = some (.cells #[.int .u32 (k : Int), .slice pq pn pc, .int .i64 (t1 : Int), .int .i64 (at2 : Int)] 135) := by rw [hr, heap_alloc_get, if_pos rfl]
          have hsX : Step [] wr (wr.alloc (.cells #[.int .u32 (k : Int), .slice pq pn pc, .int .i64 (t1 : Int), .int .i64 (at2 : Int)] 135)) := Step.alloc _ _
          obtain ⟨X, hX⟩ : ∃ X, X = wr.alloc (.cells #[.int .u32 (k : Int), .slice pq pn pc, .int .i64 (t1 : Int), .int .i64 (at2 : Int)] 135) := ⟨_, rfl⟩
          rw [← hr, ← hX]
          rw [← hX] at o8 hsX
          have x0 := cells_cell (i := 0) o8 rfl
          have x1 := cells_cell (i := 1) o8 rfl
          have x2 := cells_cell (i := 2) o8 rfl
          have x3 := cells_cell (i := 3) o8 rfl
          have x4 := step_cell hsX k3
          obtain ⟨w5, hput, hm5, hs5⟩ := ((hD2.out.1.m.keep hsX (by simp)).keep (Step.drew (S := []) X) (by simp)).put Try.underlying93 (by have := hD2.out.2.1; have := H.out.2.2.1; have := H.out.2.2.2.2.2; omega) hk32 (.agg #[.int .u32 (k : Int), .slice pq pn pc, .int .i64 (t1 : Int), .int .i64 (at2 : Int)])
          have hrb : r ≠ bm := by have := (hD2.out.1.m.block); obtain ⟨es, c, hb⟩ := this; have := heap_lt hb; omega
          have o5 : w5.heap[r]? = some (.cells #[.int .u32 (k : Int), .slice pq pn pc, .int .i64 (t1 : Int), .int .i64 (at2 : Int)] 135) := obj_step (obj_step o8 (Step.drew (S := []) X) (by simp)) hs5 (by simp; exact hrb)
          have y0 := cells_cell (i := 0) o5 rfl
          have y1 := cells_cell (i := 1) o5 rfl
          have y2 := cells_cell (i := 2) o5 rfl
          have y3 := cells_cell (i := 3) o5 rfl
          have y4 : w5.cell? ⟨b, 3, none⟩ = some (.map (some bm)) := cell_same hs5 (by simp; exact H.out.1.ne.2.1) (show X.drew.cell? ⟨b, 3, none⟩ = some (.map (some bm)) from x4)
          have HP5 := Lib.hid (And.intro hm5 (And.intro hs5 (And.intro hsX (And.intro o5 (And.intro hr hat2)))))
          clear hm5 hs5 o5 o8 hsX hX hr hat2 hrb k0 k1 k2 k3
          go_region_held3 (fun W => W.cell? ⟨r, 0, none⟩ = some (.int .u32 (k : Int)) ∧ W.cell? ⟨r, 1, none⟩ = some (.slice pq pn pc) ∧ W.cell? ⟨r, 2, none⟩ = some (.int .i64 (t1 : Int)) ∧ W.cell? ⟨r, 3, none⟩ = some (.int .i64 (at2 : Int)) ∧ W.cell? ⟨b, 3, none⟩ = some (.map (some bm)))
            (first | exact ⟨x0, x1, x2, x3, x4⟩ | exact ⟨y0, y1, y2, y3, y4⟩ | assumption)
            (fail)
          rename_i hHeld
          clear hHeld hput x0 x1 x2 x3 x4
          obtain ⟨r9, hr9⟩ : ∃ r9, r9 = w5.heap.size := ⟨_, rfl⟩
          have hsY : Step [] w5 (w5.alloc (.cells #[.int .u32 (k : Int), .slice pq pn pc, .int .i64 (t1 : Int)] 81)) := Step.alloc _ _
          have o9 : (w5.alloc (.cells #[.int .u32 (k : Int), .slice pq pn pc, .int .i64 (t1 : Int)] 81)).heap[r9]? = some (.cells #[.int .u32 (k : Int), .slice pq pn pc, .int .i64 (t1 : Int)] 81) := by rw [hr9, heap_alloc_get, if_pos rfl]
          have hpay5 : PayAt B w5 (.slice pq pn pc) p := by
            have h1 := hD2.out.2.2.2.2.2.2.2.2.1.same (HP5.out.2.2.1.trans (Step.drew X))
            refine ⟨h1.1.apart6 HP5.out.2.1 (fun i hi cur hc => ?_), h1.2⟩
            simp at hi
            subst hi
            obtain ⟨es, c, hb⟩ := (hD2.out.1.m.keep (HP5.out.2.2.1.trans (Step.drew X)) (by simp)).block
            rw [hb] at hc; cases hc
          have hpl := hpay5.2.1
          have HCl := Lib.hid (clone_any (.slice pq pn pc) (u8s p) (u8s_one p) (by rw [u8s_length]; omega) _ (hpay5.same hsY).1.reads)
          obtain ⟨Y, hY⟩ : ∃ Y, Y = w5.alloc (.cells #[.int .u32 (k : Int), .slice pq pn pc, .int .i64 (t1 : Int)] 81) := ⟨_, rfl⟩
          rw [← hY] at hsY o9 HCl
          have HY9 := Lib.hid (And.intro hsY (And.intro o9 (And.intro hpay5 (And.intro hr9 hY))))
          clear hsY o9 hpay5 hpl
          go_upto_region 14 with fail
          rw [← hr9, ← hY]
          have z0 := cells_cell (i := 0) HY9.out.2.1 rfl
          have z1 := cells_cell (i := 1) HY9.out.2.1 rfl
          have z2 := cells_cell (i := 2) HY9.out.2.1 rfl
          clear hr9 hY y0 y1 y2 y3 y4
          go_upto_region 15 with (go_at_call 93; refine HCl.out.mono ?_; rintro e w6 ⟨v6, rfl, ho6, hs6⟩; obtain ⟨vq, vc, rfl, hvc, hvm⟩ := ho6.form; have o6 := obj_step HY9.out.2.1 hs6 (by simp); have z0 := cells_cell (i := 0) o6 rfl; have z1 := cells_cell (i := 1) o6 rfl; have z2 := cells_cell (i := 2) o6 rfl; have zf := cells_frozen (i := 1) o6; have H6 := Lib.hid (And.intro ho6 (And.intro hs6 o6)); clear ho6 hs6 o6)
          have oZ := setCell_obj H6.out.2.2 1 (.slice vq (u8s p).length vc)
          have hsZ : Step [r9] w6 (w6.setCell ⟨r9, 1, none⟩ (.slice vq (u8s p).length vc)) := Step.setObj H6.out.2.2 rfl (by simp) _ _
          obtain ⟨Z0, hZ0⟩ : ∃ Z0, Z0 = w6.setCell ⟨r9, 1, none⟩ (.slice vq (u8s p).length vc) := ⟨_, rfl⟩
          rw [← hZ0] at oZ hsZ ⊢
          have q0 := cells_cell (i := 0) oZ rfl
          have q1 := cells_cell (i := 1) oZ rfl
          have q2 := cells_cell (i := 2) oZ rfl
          obtain ⟨E, hE1, hE2, hE3⟩ := hD2.out.2.2.2.1
          obtain ⟨_, _, hf1, _, _⟩ := hD2.out.2.2.2.1.form
          have hn5 : n5 = E.length := by injection hf1 with _ e2 _; rw [e2, hE2]
          rw [← hE2, ← hn5] at hE1
          have hbm5 : Step [bm] wr w5 := (HP5.out.2.2.1.trans (Step.drew X)).nil_mono.trans HP5.out.2.1
          have hsC : Step [] w5 Z0 := (HY9.out.1.trans H6.out.2.1).trans' hsZ (fun _ h _ => h) (fun i hi hl => by simp at hi; subst hi; have := HY9.out.2.2.2.1; omega)
          have hrowZ : Z0.ownsRow wc.heap.size 81 3 (.slice q5 n5 c5) n5 (cells3 E) := row_step (row_step hE1 hbm5 (fun g hg hm => by
            simp at hm
            obtain ⟨_, cur, hc⟩ := row_type hE1 g (by simp [hg])
            obtain ⟨es, c, hb⟩ := hD2.out.1.m.block
            rw [hm, hb] at hc; cases hc)) hsC (by simp)
          have hZs : wc.heap.size ≤ Z0.heap.size := by have := hD2.out.2.2.2.2.1.1.size; have := hbm5.size; have := hsC.size; omega
          have HZ := Lib.hid (And.intro hsZ (And.intro hE1 (And.intro hE2 (And.intro hE3 (And.intro hn5 (And.intro hsC (And.intro hrowZ hZs)))))))
          have hjL : n5 ≤ 255 := by omega
          clear oZ hsZ hE1 hE2 hE3 hn5 hbm5 hsC hrowZ hZs hf1 z0 z1 z2 zf hZ0
          go_wp2_with (at_builtin; refine wpList_append_own _ rfl _ _ 76 rfl wc.heap.size 81 i0 _ 3 40 Try.underlying76 hi0 hz0 hz1 hz2 rfl (by omega) (.slice q5 n5 c5) n5 (cells3 E) rfl (HZ.out.2.2.2.2.2.2.1.alloc _) ⟨Z0.heap.size, 0, none⟩ 1 1 [.int .u32 (k : Int), .slice vq (u8s p).length vc, .int .i64 (t1 : Int)] rfl rfl (new_cells3 rfl) (by simp [Value.oneCell']) (by unfold maxLen; omega) (by omega) (by have := HZ.out.2.2.2.2.2.2.2; simp; omega) ?_; intro v' w' ho hg _; obtain ⟨q3, n3, rfl⟩ := rowForm6 ho; have HO7 := Lib.hid (And.intro ho hg); clear ho hg)
          go_roundw
          case rel =>
            refine ⟨j + 1, n5 + 1, n3, q3, by omega, by go_num, rfl, by omega, ?_⟩
            have hD7 : Step (Value.slice q5 n5 c5).ownBlock.toList (Z0.alloc (.cells #[.int .u32 (k : Int), .slice vq (u8s p).length vc, .int .i64 (t1 : Int)] 81)) w' := Step.grown HO7.out.2 (fun i hi => by
              obtain ⟨_, cur, hc⟩ := row_type (HZ.out.2.2.2.2.2.2.1.alloc (.cells #[.int .u32 (k : Int), .slice vq (u8s p).length vc, .int .i64 (t1 : Int)] 81)) i (by simp [hi])
              exact ⟨.inl (by simp [hi]), fun ob hob => by rw [hc] at hob; cases hob; rfl⟩)
            have ho7 : OwnAt w5.heap.size (Z0.alloc (.cells #[.int .u32 (k : Int), .slice vq (u8s p).length vc, .int .i64 (t1 : Int)] 81)) 5 (.slice vq (u8s p).length vc) (u8s p) := by
              refine OwnAt.same (OwnAt.apart6 (OwnAt.low H6.out.1 ?_) HZ.out.1 (fun i hi cur hc => ?_)) (Step.alloc _ _)
              · have := HY9.out.1.size
                omega
              · simp at hi
                subst hi
                rw [H6.out.2.2] at hc; cases hc
            exact DueAt.next H.out.2.1 hD2.out.1 hD2.out.2.1 hD2.out.2.2.1 HZ.out.2.1 HZ.out.2.2.1 HZ.out.2.2.2.2.1 HZ.out.2.2.2.1 hD2.out.2.2.2.2.1 hD2.out.2.2.2.2.2.2.2.1 hD2.out.2.2.2.2.2.1 hD2.out.2.2.2.2.2.2.1 hD2.out.2.2.2.2.2.2.2.2.2.2.1 hD2.out.2.2.2.2.2.2.2.2.2.2.2 HY9.out.2.2.1
              (HP5.out.2.2.1.trans (Step.drew X)) HP5.out.1 HP5.out.2.1 (HZ.out.2.2.2.2.2.1.trans (Step.alloc _ _)) ho7 HO7.out.1 hD7 HT1.out.1 (by have := HP5.out.2.2.2.2.2; have := HT1.out.2; omega)
          case measure => simp [intOf]; omega
      · obtain rfl : j = L := by omega
        clear hlt
        go_wp2_with fail
        go_ret
        obtain ⟨M', h1, h2, h3, h4, h5, h6⟩ := hD.out
        have hall : ys.take j = keysG g u := by rw [HL.out, List.take_length, HY.out.1]
        rw [hall] at h1 h4
        exact ⟨_, M', rfl, h4, by rw [← midG_all H.out.1.kb]; exact h1, h2, h5, h6⟩
theorem due6_any {m : Nat} (hP : PdqAt m) (hm : m < 256) (B b sp bm u lim a z : Nat) (M : Ents) (g : Kept6) (w : World) (h : WinM B w b sp bm u lim a z M g) (hB : B ≤ w.heap.size) (hM : M.length ≤ m)
    (hT : ∀ k x, g k = some x → x.2.1 < 1000000) (now : Int) (nc : Nat) (hnc : (nc : Int) = max (min now 1099511627776) 0) :
    Calls Try.prog 49 #[.pointer (some ⟨b, 0, none⟩), .int .i64 now] w fun e w' => ∃ v M', e = .returned v ∧ OutAt w.heap.size w' v (dueL nc g u) ∧ WinM B w' b sp bm u lim a z M' (dueG a z nc g) ∧ M'.length = M.length ∧ Step [bm] w w' := by
  refine (due6_new hP hm B b sp bm u lim a z M g w h hB hM hT now nc hnc).mono ?_
  rintro e w' ⟨v, M', rfl, h1, h2, h3, h4, _⟩
  exact ⟨v, M', rfl, h1, h2, h3, h4⟩
end Go.Proofs.Ytbainekfbonbjaa
