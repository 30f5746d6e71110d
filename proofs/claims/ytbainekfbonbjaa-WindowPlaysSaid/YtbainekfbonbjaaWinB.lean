/- window: New, Put, wait. No statement is proved here; nothing is assumed. -/
import Derived.Test.YtbainekfbonbjaaWinA
namespace Go.Proofs.Ytbainekfbonbjaa
open Go.RowKit Go.Shelf
set_option linter.unusedVariables false
set_option linter.unusedSimpArgs false
attribute [local go_sem] Oper.semAt_some

/-- The block that an item's payload has. -/
def payB (v : Value) : Option Nat := match v with
  | .agg xs => (xs[1]?).bind Value.ownBlock
  | _ => none
/-- Each payload of M' is one of M's, or newer than n. -/
def PayNew (M M' : Ents) (n : Nat) : Prop := ∀ q ∈ M', (∃ q0 ∈ M, payB q.2 = payB q0.2) ∨ ∀ g, payB q.2 = some g → n ≤ g
/-- Each payload of M' is one of M's. -/
def PaySub (M M' : Ents) : Prop := ∀ q ∈ M', ∃ q0 ∈ M, payB q.2 = payB q0.2
theorem PaySub.refl (M : Ents) : PaySub M M := fun q hq => ⟨q, hq, rfl⟩
theorem PaySub.put {M M' : Ents} {k k' : Nat} {a b a' b' c' pl : Value} (h : PaySub M M') (hm : (k', .agg #[a', pl, b', c']) ∈ M') (c : Value) : PaySub M (putE M' k (.agg #[a, pl, b, c])) := fun q hq => by
  rcases mem_putE.1 hq with ⟨h1, _⟩ | rfl
  · exact h q h1
  · obtain ⟨q0, h1, h2⟩ := h _ hm
    exact ⟨q0, h1, h2⟩
theorem PayNew.put {M : Ents} {k n : Nat} {a b c pl : Value} (h : ∀ g, pl.ownBlock = some g → n ≤ g) : PayNew M (putE M k (.agg #[a, pl, b, c])) n := fun q hq => by
  rcases mem_putE.1 hq with ⟨h1, _⟩ | rfl
  · exact .inl ⟨q, h1, rfl⟩
  · exact .inr h
theorem OwnAt.apart6 {B : Nat} {W W' : World} {e : TypeId} {v : Value} {vals : List Value} {S : List Nat} (h : OwnAt B W e v vals) (hs : Step S W W') (hS : ∀ i ∈ S, ∀ cur, W.heap[i]? ≠ some (.cells cur e (0, 0))) : OwnAt B W' e v vals :=
  h.step hs (fun g hg hm => by obtain ⟨_, _, cur, hc⟩ := h.block hg; exact hS g hm cur hc)
theorem cell_same {S : List Nat} {W W' : World} {b i : Nat} {x : Value} (hs : Step S W W') (hb : b ∉ S) (h : W.cell? ⟨b, i, none⟩ = some x) : W'.cell? ⟨b, i, none⟩ = some x := by
  have h1 := hs.same b (World.block_lt_of_cell? _ _ h) hb
  rw [← h]
  simp only [World.cell?, h1]
theorem Reads.apart {S : List Nat} {W W' : World} {v : Value} {xs : List Nat} (h : Reads W v (u8s xs)) (hs : Step S W W') (hS : ∀ i ∈ S, ∀ (j : Nat) (x : Int), W.cell? ⟨i, j, none⟩ ≠ some (.int .u8 x)) : Reads W' v (u8s xs) := by
  rcases h with h | ⟨b, off, cap, h1, h2, h3, h4⟩
  · exact .inl h
  · refine .inr ⟨b, off, cap, h1, h2, h3, fun j hj => ?_⟩
    have h5 := h4 j hj
    rw [u8s_length] at hj
    rw [u8s_get, List.getElem?_eq_getElem hj] at h5 ⊢
    exact cell_same hs (fun hm => hS b hm _ _ h5) h5
theorem space_not8 {W : World} {b u l : Nat} (h : SpaceAt W b u l) : ∀ (j : Nat) (x : Int), W.cell? ⟨b, j, none⟩ ≠ some (.int .u8 x) := fun j x hc => by
  have h1 : W.heap[b]? = some (spaceObj 92 u l) := h
  unfold spaceObj at h1
  simp only [World.cell?, h1] at hc
  match j with
  | 0 => simp at hc
  | 1 => simp at hc
  | j + 2 => simp at hc
set_option maxRecDepth 100000 in
theorem new6_ok (lim a z : Nat) (hl : 1 ≤ lim ∧ lim ≤ 2147483648) (ha : 1 ≤ a ∧ a ≤ z ∧ z ≤ 1099511627776) (w : World) :
    Calls Try.prog 43 #[.int .u32 (lim : Int), .int .i64 (a : Int), .int .i64 (z : Int)] w fun e w' => ∃ b sp bm, e = .returned (.tuple #[.pointer (some ⟨b, 0, none⟩), .int .i64 0]) ∧ WinM w.heap.size w' b sp bm 0 lim a z [] (fun _ => none) ∧ Step [] w w' := by
  have hmm := @run_makeMap Try.prog
  have h1 : (a : Int) < 1099511627777 := by omega
  have h2 : (z : Int) < 1099511627777 := by omega
  have e1 : ((a : Int) < 1) = False := by simp; omega
  have e2 : ((z : Int) < (a : Int)) = False := by simp; omega
  have e3 : ((1099511627776 : Int) < (z : Int)) = False := by simp; omega
  have HS := Lib.hid (spaceNew_ok lim hl.1 hl.2 w)
  have HL := Lib.hid (And.intro hl ha)
  clear hl ha
  go_enter Try.func43, Try.ntmps43
  go_wp2_with (go_at_call 37; refine HS.out.mono ?_; rintro e w' ⟨rfl, rfl⟩)
  go_ret2
  have s1 : Step [] w (w.alloc (spaceObj 92 0 lim)) := Step.alloc _ _
  have s2 : Step [] (w.alloc (spaceObj 92 0 lim)) ((w.alloc (spaceObj 92 0 lim)).alloc (.map #[] 0)) := Step.alloc _ _
  have s3 : Step [] ((w.alloc (spaceObj 92 0 lim)).alloc (.map #[] 0)) (((w.alloc (spaceObj 92 0 lim)).alloc (.map #[] 0)).alloc (.cells #[.pointer (some ⟨w.heap.size, 0, none⟩), .int .i64 (a : Int), .int .i64 (z : Int), .map (some (w.heap.size + 1))] 95)) := Step.alloc _ _
  refine ⟨w.heap.size + 1 + 1, w.heap.size, w.heap.size + 1, rfl, ⟨?_, ?_, ⟨by omega, by omega, by omega⟩, ?_, RepW.nil, ⟨by omega, HL.out.1⟩, HL.out.2, by simp⟩, (s1.trans s2).trans s3⟩
  · rw [heap_alloc_get, if_pos (by simp)]; rfl
  · have : SpaceAt (w.alloc (spaceObj 92 0 lim)) w.heap.size 0 lim := by unfold SpaceAt; rw [heap_alloc_get, if_pos rfl]
    exact obj_step (obj_step this s2 (by simp)) s3 (by simp)
  · have := (MapV.made (w.alloc (spaceObj 92 0 lim))).keep s3 (by simp)
    rw [World.size_alloc] at this
    exact this
set_option maxRecDepth 100000 in
theorem new6_bad (lim : Nat) (a z : Int) (hb : (lim < 1 ∨ 2147483648 < lim) ∨ a < 1 ∨ z < a ∨ 1099511627776 < z) (w : World) :
    Calls Try.prog 43 #[.int .u32 (lim : Int), .int .i64 a, .int .i64 z] w fun e w' => e = .returned (.tuple #[.pointer none, .int .i64 1]) ∧ Step [] w w' := by
  by_cases hl : lim < 1 ∨ 2147483648 < lim
  · have HS := Lib.hid (spaceNew_bad lim hl w)
    clear hl hb
    go_enter Try.func43, Try.ntmps43
    go_wp2_with (go_at_call 37; refine HS.out.mono ?_; rintro e w' ⟨rfl, rfl⟩)
    go_ret2
    exact ⟨rfl, Step.refl _ _⟩
  · have HS := Lib.hid (spaceNew_ok lim (by omega) (by omega) w)
    have hb' : a < 1 ∨ z < a ∨ 1099511627776 < z := hb.resolve_left hl
    clear hl hb
    by_cases ha : a < 1
    · have e1 : (a < 1) = True := eq_true ha
      clear hb' ha
      go_enter Try.func43, Try.ntmps43
      go_wp2_with (go_at_call 37; refine HS.out.mono ?_; rintro e w' ⟨rfl, rfl⟩)
      go_ret2
      exact ⟨rfl, Step.alloc _ _⟩
    · have e1 : (a < 1) = False := eq_false ha
      by_cases hz : z < a
      · have e2 : (z < a) = True := eq_true hz
        clear hb' ha hz
        go_enter Try.func43, Try.ntmps43
        go_wp2_with (go_at_call 37; refine HS.out.mono ?_; rintro e w' ⟨rfl, rfl⟩)
        go_ret2
        exact ⟨rfl, Step.alloc _ _⟩
      · have e2 : (z < a) = False := eq_false hz
        have e3 : (1099511627776 < z) = True := eq_true ((hb'.resolve_left ha).resolve_left hz)
        clear hb' ha hz
        go_enter Try.func43, Try.ntmps43
        go_wp2_with (go_at_call 37; refine HS.out.mono ?_; rintro e w' ⟨rfl, rfl⟩)
        go_ret2
        exact ⟨rfl, Step.alloc _ _⟩
theorem put6_nil (v : Value) (now : Int) (w : World) : Calls Try.prog 47 #[.pointer none, v, .int .i64 now] w fun e w' => e = .returned (.tuple #[.int .u32 0, .int .i64 2]) ∧ w = w' := by
  have HN := Lib.hid (none6_nil w)
  go_enter Try.func47, Try.ntmps47
  go_wp2_with (go_at_call 92; refine HN.out.mono ?_; rintro e w' ⟨rfl, hw⟩; cases hw.symm)
  go_ret2
  exact ⟨rfl, rfl⟩
theorem put6_zero (b : Nat) (v : Value) (now : Int) (w : World) (h : w.heap[b]? = some zeroObj6) : Calls Try.prog 47 #[.pointer (some ⟨b, 0, none⟩), v, .int .i64 now] w fun e w' => e = .returned (.tuple #[.int .u32 0, .int .i64 2]) ∧ w = w' := by
  have HN := Lib.hid (none6_zero b w h)
  clear h
  go_enter Try.func47, Try.ntmps47
  go_wp2_with (go_at_call 92; refine HN.out.mono ?_; rintro e w' ⟨rfl, hw⟩; cases hw.symm)
  go_ret2
  exact ⟨rfl, rfl⟩
section
variable {B b sp bm u lim a z : Nat} {M : Ents} {g : Kept6} {w : World}
theorem put6_arg (h : WinM B w b sp bm u lim a z M g) (v : Value) (now : Int) (hn : now < 0 ∨ 1099511627776 < now) : Calls Try.prog 47 #[.pointer (some ⟨b, 0, none⟩), v, .int .i64 now] w fun e w' => e = .returned (.tuple #[.int .u32 0, .int .i64 1]) ∧ w = w' := by
  have HN := Lib.hid (none6_any b sp a z bm w h.o)
  clear h
  by_cases h0 : now < 0
  · have e1 : (now < 0) = True := eq_true h0
    clear hn h0
    go_enter Try.func47, Try.ntmps47
    go_wp2_with (go_at_call 92; refine HN.out.mono ?_; rintro e w' ⟨rfl, hw⟩; cases hw.symm)
    go_ret2
    exact ⟨rfl, rfl⟩
  · have e1 : (now < 0) = False := eq_false h0
    have e2 : (1099511627776 < now) = True := eq_true (hn.resolve_left h0)
    clear hn h0
    go_enter Try.func47, Try.ntmps47
    go_wp2_with (go_at_call 92; refine HN.out.mono ?_; rintro e w' ⟨rfl, hw⟩; cases hw.symm)
    go_ret2
    exact ⟨rfl, rfl⟩
theorem put6_long (h : WinM B w b sp bm u lim a z M g) (q : Option Addr) (len cap now : Nat) (hn : now ≤ 1099511627776) (hl : 256 < len) : Calls Try.prog 47 #[.pointer (some ⟨b, 0, none⟩), .slice q len cap, .int .i64 (now : Int)] w fun e w' => e = .returned (.tuple #[.int .u32 0, .int .i64 3]) ∧ w = w' := by
  have HN := Lib.hid (none6_any b sp a z bm w h.o)
  have e1 : ((now : Int) < 0) = False := eq_false (by omega)
  have e2 : ((1099511627776 : Int) < (now : Int)) = False := by simp; omega
  have e3 : ((256 : Int) < (len : Int)) = True := by simp; omega
  clear h hn hl
  go_enter Try.func47, Try.ntmps47
  go_wp2_with (go_at_call 92; refine HN.out.mono ?_; rintro e w' ⟨rfl, hw⟩; cases hw.symm)
  go_ret2
  exact ⟨rfl, rfl⟩
theorem put6_busy (h : WinM B w b sp bm u lim a z M g) (q : Option Addr) (len cap now : Nat) (hn : now ≤ 1099511627776) (hl : len ≤ 256) (hm : 16 ≤ M.length) : Calls Try.prog 47 #[.pointer (some ⟨b, 0, none⟩), .slice q len cap, .int .i64 (now : Int)] w fun e w' => e = .returned (.tuple #[.int .u32 0, .int .i64 8]) ∧ w = w' := by
  have HN := Lib.hid (none6_any b sp a z bm w h.o)
  obtain ⟨_, _, _, c3⟩ := win_cells h.o
  have hlen := h.m.len Try.underlying93
  have e1 : ((now : Int) < 0) = False := eq_false (by omega)
  have e2 : ((1099511627776 : Int) < (now : Int)) = False := by simp; omega
  have e3 : ((256 : Int) < (len : Int)) = False := by simp; omega
  have e4 : ((16 : Int) ≤ (M.length : Int)) = True := by simp; omega
  clear h hn hl hm
  go_enter Try.func47, Try.ntmps47
  go_wp2_with (go_at_call 92; refine HN.out.mono ?_; rintro e w' ⟨rfl, hw⟩; cases hw.symm)
  go_ret2
  exact ⟨rfl, rfl⟩
theorem put6_full (h : WinM B w b sp bm u lim a z M g) (q : Option Addr) (len cap now : Nat) (hn : now ≤ 1099511627776) (hl : len ≤ 256) (hm : M.length < 16) (hu : u = lim) : Calls Try.prog 47 #[.pointer (some ⟨b, 0, none⟩), .slice q len cap, .int .i64 (now : Int)] w fun e w' => e = .returned (.tuple #[.int .u32 0, .int .i64 7]) ∧ Step [] w w' := by
  subst hu
  have HN := Lib.hid (none6_any b sp a z bm w h.o)
  obtain ⟨c0, _, _, c3⟩ := win_cells h.o
  have hlen := h.m.len Try.underlying93
  have HX := Lib.hid (next_full sp u h.ul.2.1 (by have := h.ul.2.2; omega) w h.s)
  have e1 : ((now : Int) < 0) = False := eq_false (by omega)
  have e2 : ((1099511627776 : Int) < (now : Int)) = False := by simp; omega
  have e3 : ((256 : Int) < (len : Int)) = False := by simp; omega
  have e4 : ((16 : Int) ≤ (M.length : Int)) = False := by simp; omega
  clear h hn hl hm
  go_enter Try.func47, Try.ntmps47
  go_wp2_with (first | (go_at_call 92; refine HN.out.mono ?_; rintro e w' ⟨rfl, hw⟩; cases hw.symm) | (go_at_call 39; refine HX.out.mono ?_; rintro e w' ⟨rfl, hs, hst⟩; have HT := Lib.hid hst; clear hs hst))
  go_ret2
  exact ⟨rfl, HT.out⟩
set_option maxRecDepth 100000 in
set_option maxHeartbeats 2000000 in
theorem put6_new (h : WinM B w b sp bm u lim a z M g) (hB : B ≤ w.heap.size) (q : Option Addr) (cap now : Nat) (p : List Nat) (n : Nat) (hpn : n = p.length) (hp : ∀ x ∈ p, x < 256) (hr : Reads w (.slice q n cap) (u8s p)) (hn : now ≤ 1099511627776) (hl : p.length ≤ 256) (hm : M.length < 16) (hu : u < lim) :
    Calls Try.prog 47 #[.pointer (some ⟨b, 0, none⟩), .slice q n cap, .int .i64 (now : Int)] w fun e w' => e = .returned (.tuple #[.int .u32 (u : Int), .int .i64 0]) ∧ ∃ M', WinM B w' b sp bm (u + 1) lim a z M' (setG g u (some (p, 0, now))) ∧ M'.length = M.length + 1 ∧ Step [sp, bm] w w' ∧ PayNew M M' w.heap.size := by
  have HN := Lib.hid (none6_any b sp a z bm w h.o)
  obtain ⟨c0, _, _, c3⟩ := win_cells h.o
  have hlen := h.m.len Try.underlying93
  have HX := Lib.hid (next_ok sp u lim h.ul.2.1 hu (by have := h.ul.2.2; omega) w h.s)
  have e1 : ((now : Int) < 0) = False := eq_false (by omega)
  have e2 : ((1099511627776 : Int) < (now : Int)) = False := by simp; omega
  have e3 : ((256 : Int) < (n : Int)) = False := by simp; omega
  have e4 : ((16 : Int) ≤ (M.length : Int)) = False := by simp; omega
  have H := Lib.hid (And.intro h (And.intro hr (And.intro hp hl)))
  have HB := Lib.hid (And.intro hB (And.intro hm (And.intro hu hpn)))
  have HU := Lib.hid (show u < 4294967296 by have := h.ul; omega)
  clear h hr hp hl hB hm hu hn hpn
  go_enter Try.func47, Try.ntmps47
  go_wp2_with (first
    | (go_at_call 92; refine HN.out.mono ?_; rintro e w' ⟨rfl, hw⟩; cases hw.symm)
    | (go_at_call 39; refine HX.out.mono ?_; rintro e w1 ⟨rfl, hsp, hst⟩; have c3 := (win_cells (obj_step H.out.1.o hst (by simp; exact H.out.1.ne.1))).2.2.2; have HT := Lib.hid (And.intro hsp hst); clear hsp hst))
  clear HN HX hlen
  have hI1 : MapV w1 bm M := H.out.1.m.keep HT.out.2 (by simp; exact fun e => H.out.1.ne.2.2 e.symm)
  have hrd : Reads w1 (.slice q n cap) (u8s p) := H.out.2.1.apart HT.out.2 (fun i hi => by simp at hi; subst hi; exact space_not8 H.out.1.s)
  have HM := Lib.hid (And.intro hI1 hrd)
  clear hI1 hrd
  go_region_held3 (fun W => W.cell? ⟨b, 3, none⟩ = some (.map (some bm)))
    (first | exact c3 | assumption)
    (first
      | (go_at_call 93; refine (clone_any _ (u8s p) (u8s_one p) (by rw [u8s_length]; have := H.out.2.2.2; omega) _ (HM.out.2.same (Step.drew (S := []) w1))).mono ?_; rintro e w' ⟨v', rfl, ho, hs⟩;
         have hI := HM.out.1.keep ((Step.drew (S := []) w1).trans hs) (by simp);
         obtain ⟨w5, hput, hm5, hs5⟩ := hI.put Try.underlying93 (by have := HB.out.2.1; omega) HU.out (.agg #[.int .u32 (u : Int), v', .int .i64 0, .int .i64 (now : Int)]);
         obtain ⟨vq, vc, rfl, _, _⟩ := ho.form;
         have k4 : w'.cell? ⟨b, 3, none⟩ = some (.map (some bm)) := step_cell ((Step.drew (S := []) w1).trans hs) c3;
         have k5 : w5.cell? ⟨b, 3, none⟩ = some (.map (some bm)) := cell_same hs5 (by simp; exact H.out.1.ne.2.1) k4;
         have HX := Lib.hid (And.intro ho (And.intro hs (And.intro hm5 hs5))); clear ho hs hI hm5 hs5))
  rename_i hHeld
  clear hHeld k4 k5 hput c3
  go_wp2
  go_ret2
  have hs1 : Step [sp, bm] w w1 := HT.out.2.mono (fun i hi _ => by simp at hi ⊢; exact .inl hi)
  have hs' : Step [] w1 w' := (Step.drew w1).trans HX.out.2.1
  have hs5 : Step [sp, bm] w' w5 := HX.out.2.2.2.mono (fun i hi _ => by simp at hi ⊢; exact .inr hi)
  have hall : Step [sp, bm] w w5 := (hs1.trans hs'.nil_mono).trans hs5
  have hmw := HM.out.1.keep hs' (by simp)
  have hne := H.out.1.ne
  have hpay : PayAt B w5 (.slice vq (u8s p).length vc) p := by
    have hlow : B ≤ w1.drew.heap.size := by
      have := HB.out.1
      have := hs1.size
      show B ≤ w1.heap.size
      omega
    refine ⟨OwnAt.apart6 (OwnAt.low HX.out.1 hlow) HX.out.2.2.2 (fun i hi cur hc => ?_), H.out.2.2.2, H.out.2.2.1⟩
    simp at hi
    subst hi
    obtain ⟨es, c, hb⟩ := hmw.block
    rw [hb] at hc; cases hc
  have hr5 : RepW (ItemAt B w5) M g := H.out.1.r.mono fun k v x _ hi => hi.step hall (fun i hi => H.out.1.apart i (by simp at hi ⊢; exact .inr hi))
  refine ⟨rfl, _, ⟨obj_step H.out.1.o hall (by simp; exact ⟨hne.1, hne.2.1⟩), obj_step (obj_step HT.out.1 hs' (by simp)) HX.out.2.2.2 (by simp; exact hne.2.2), H.out.1.lo, HX.out.2.2.1, hr5.put ⟨_, rfl, hpay⟩, ⟨by have := HB.out.2.2.1; omega, H.out.1.ul.2⟩, H.out.1.az, fun k x hk => ?_⟩, ?_, hall, PayNew.put (fun gg hgg => ?_)⟩
  · by_cases e : k = u
    · omega
    · rw [setG_other _ _ e] at hk
      have := H.out.1.kb k x hk
      omega
  · refine len_putE H.out.1.r.nd u _ ?_
    rw [H.out.1.r.has]
    cases e : g u with
    | none => rfl
    | some x => have := H.out.1.kb u x e; omega
  · have h1 := (HX.out.1.block hgg).1
    have h2 : w.heap.size ≤ w1.heap.size := hs1.size
    have h3 : w1.drew.heap.size = w1.heap.size := rfl
    omega
theorem put6_ok (h : WinM B w b sp bm u lim a z M g) (hB : B ≤ w.heap.size) (q : Option Addr) (cap now : Nat) (p : List Nat) (n : Nat) (hpn : n = p.length) (hp : ∀ x ∈ p, x < 256) (hr : Reads w (.slice q n cap) (u8s p)) (hn : now ≤ 1099511627776) (hl : p.length ≤ 256) (hm : M.length < 16) (hu : u < lim) :
    Calls Try.prog 47 #[.pointer (some ⟨b, 0, none⟩), .slice q n cap, .int .i64 (now : Int)] w fun e w' => e = .returned (.tuple #[.int .u32 (u : Int), .int .i64 0]) ∧ ∃ M', WinM B w' b sp bm (u + 1) lim a z M' (setG g u (some (p, 0, now))) ∧ M'.length = M.length + 1 ∧ Step [sp, bm] w w' := by
  refine (put6_new h hB q cap now p n hpn hp hr hn hl hm hu).mono ?_
  rintro e w' ⟨rfl, M', h1, h2, h3, _⟩
  exact ⟨rfl, M', h1, h2, h3⟩
end
/-- What wait answers: the n-th wait. -/
def dbl (z : Nat) : Nat → Nat → Nat
  | 0, o => o
  | n + 1, o => if o < z then dbl z n (2 * o) else o
def waitN (a z n : Nat) : Nat := min (dbl z (n - 1) a) z
theorem dbl_le (z : Nat) : ∀ (n o : Nat), o ≤ 2 * z → dbl z n o ≤ 2 * z
  | 0, o, h => h
  | n + 1, o, h => by
    unfold dbl
    split
    · exact dbl_le z n _ (by omega)
    · exact h
theorem wait6_any (b sp a z n : Nat) (m : Option Nat) (ha : 1 ≤ a ∧ a ≤ z ∧ z ≤ 1099511627776) (hn : n < 1000000000) (w : World) (h : w.heap[b]? = some (winObj sp a z m)) :
    Calls Try.prog 96 #[.pointer (some ⟨b, 0, none⟩), .int .i64 (n : Int)] w fun e w' => e = .returned (.int .i64 (waitN a z n : Int)) ∧ w = w' := by
  obtain ⟨_, c1, c2, _⟩ := win_cells h
  have hz : (z : Int) ≤ 1099511627776 := by omega
  have HA := Lib.hid (And.intro ha hn)
  clear h ha hn
  go_enter Try.func96, Try.ntmps96
  go_wp2_with fail
  go_loopw [1, 5] (fun i o wr => ∃ (j x : Nat), i = .int .i64 (j : Int) ∧ o = .int .i64 (x : Int) ∧ j ≤ n ∧ x ≤ 2 * z ∧ dbl z (j - 1) x = dbl z (n - 1) a ∧ w = wr) (fun i o wr => (intOf i).toNat)
  case atStart => exact ⟨n, a, rfl, rfl, by omega, by have := HA.out; omega, rfl, rfl⟩
  case round =>
    obtain ⟨j, x, rfl, rfl, hj, hx, hd, rfl⟩ := hrel
    by_cases hj1 : 1 < j
    · have s1 : ((1 : Int) < (j : Int)) = True := by simp; omega
      by_cases hxz : x < z
      · have s2 : ((x : Int) < (z : Int)) = True := by simp; omega
        have w2 : IntKind.i64.wrap ((j : Int) - 1) = (j : Int) - 1 := by have := HA.out.2; rw [IntKind.wrap_i64]; omega
        have w1 : IntKind.i64.wrap ((x : Int) * 2) = (x : Int) * 2 := by rw [IntKind.wrap_i64]; omega
        have hd2 : dbl z (j - 1 - 1) (2 * x) = dbl z (n - 1) a := by
          rw [← hd]
          obtain ⟨i, rfl⟩ : ∃ i, j = i + 2 := ⟨j - 2, by omega⟩
          show dbl z i (2 * x) = dbl z (i + 1) x
          conv => rhs; unfold dbl
          rw [if_pos hxz]
        have HD := Lib.hid hd2
        have HN := Lib.hid (And.intro hj HA.out.2)
        clear hd hd2 hj
        go_wp2_with fail
        go_roundw
        case rel => exact ⟨j - 1, 2 * x, by congr 1; omega, by congr 1; omega, by have := HN.out; omega, by omega, HD.out, trivial⟩
        case measure => simp [intOf]; omega
      · have s2 : ((x : Int) < (z : Int)) = False := by simp; omega
        have hr : dbl z (n - 1) a = x := by
          rw [← hd]
          obtain ⟨i, rfl⟩ : ∃ i, j = i + 2 := ⟨j - 2, by omega⟩
          show dbl z (i + 1) x = x
          unfold dbl
          rw [if_neg hxz]
        have e1 : (waitN a z n : Int) = (z : Int) := by unfold waitN; rw [hr]; omega
        have HE := Lib.hid e1
        clear hr hd e1
        go_wp2_with fail
        all_goals (go_ret; refine ⟨?_, rfl⟩; rw [HE.out]; first | rfl | (rw [show min x z = z by omega]; rfl) | (rw [show min x z = x by omega]; rfl) | (rw [show z = x by omega]; rfl))
    · have s1 : ((1 : Int) < (j : Int)) = False := by simp; omega
      have hr : dbl z (n - 1) a = x := by rw [← hd, show j - 1 = 0 by omega]; rfl
      have e1 : (waitN a z n : Int) = ((min x z : Nat) : Int) := by unfold waitN; rw [hr]
      have HE := Lib.hid e1
      clear hr hd e1
      go_wp2_with fail
      all_goals (go_ret; refine ⟨?_, rfl⟩; rw [HE.out]; first | rfl | (rw [show min x z = z by omega]; rfl) | (rw [show min x z = x by omega]; rfl) | (rw [show z = x by omega]; rfl))
end Go.Proofs.Ytbainekfbonbjaa
