/- intake: Take. No statement is proved here; nothing is assumed. -/
import Derived.Test.YtbainekfbonbjaaIntF
namespace Go.Proofs.Ytbainekfbonbjaa
open Go.RowKit Go.Shelf
set_option linter.unusedVariables false
set_option linter.unusedSimpArgs false
attribute [local go_sem] Oper.semAt_some

theorem take_nil (n : Int) (v : Value) (w : World) : Calls Try.prog 62 #[.pointer none, .int .u32 n, v] w fun e w' => e = .returned (.tuple #[.slice none 0 0, .int .i64 0, .int .i64 2]) ∧ w = w' := by
  go_enter Try.func62, Try.ntmps62
  go_wp2_with (go_at_call 98; refine (none_nil _).mono ?_; rintro e w' ⟨rfl, hw⟩; cases hw.symm)
  go_ret3
  exact ⟨rfl, rfl⟩
theorem take_zero (b F : Nat) (n : Int) (v : Value) (w : World) (h : IntObj w b F none) : Calls Try.prog 62 #[.pointer (some ⟨b, 0, none⟩), .int .u32 n, v] w fun e w' => e = .returned (.tuple #[.slice none 0 0, .int .i64 0, .int .i64 2]) ∧ w = w' := by
  have HN := Lib.hid (none_any b F none w h)
  clear h
  go_enter Try.func62, Try.ntmps62
  go_wp2_with (go_at_call 98; refine HN.out.mono ?_; rintro e w' ⟨rfl, hw⟩; cases hw.symm)
  go_ret3
  exact ⟨rfl, rfl⟩
section
variable (B bi bm F : Nat) (M : Ents) (f : Kept7) (q : Option Addr) (len cap n : Nat) (w : World)
theorem take_long (h : IntM B w bi bm F M f) (hl : 256 < len) : Calls Try.prog 62 #[.pointer (some ⟨bi, 0, none⟩), .int .u32 (n : Int), .slice q len cap] w fun e w' => e = .returned (.tuple #[.slice none 0 0, .int .i64 0, .int .i64 3]) ∧ w = w' := by
  have HN := Lib.hid (none_any bi F (some bm) w h.o)
  have h1 : ((256 : Int) < (len : Int)) = True := by simp; omega
  clear h hl
  go_enter Try.func62, Try.ntmps62
  go_wp2_with (go_at_call 98; refine HN.out.mono ?_; rintro e w' ⟨rfl, hw⟩; cases hw.symm)
  go_ret3
  exact ⟨rfl, rfl⟩
theorem take_again (h : IntM B w bi bm F M f) (hl : len ≤ 256) (hn : n < 4294967296) (hF : F < 4294967296) (ha : n < F ∨ (f n).isSome = true) : Calls Try.prog 62 #[.pointer (some ⟨bi, 0, none⟩), .int .u32 (n : Int), .slice q len cap] w fun e w' => e = .returned (.tuple #[.slice none 0 0, .int .i64 2, .int .i64 0]) ∧ w = w' := by
  obtain ⟨c0, c1, _⟩ := int_cells h.o
  have HN := Lib.hid (none_any bi F (some bm) w h.o)
  have HH := Lib.hid (has7_any bi F bm n hn M w h.o h.m)
  have h1 : ((256 : Int) < (len : Int)) = False := by simp; omega
  have HE := Lib.hid (h.has n)
  by_cases hlt : n < F
  · have h2 : ((n : Int) < (F : Int)) = True := by simp; omega
    clear h hl ha hlt
    go_enter Try.func62, Try.ntmps62
    go_wp2_with (go_at_call 98; refine HN.out.mono ?_; rintro e w' ⟨rfl, hw⟩; cases hw.symm)
    go_ret3
    exact ⟨rfl, rfl⟩
  · have h2 : ((n : Int) < (F : Int)) = False := by simp; omega
    have h3 : (f n).isSome = true := by rcases ha with h | h; omega; exact h
    rw [HE.out, h3] at HH
    clear h hl ha hlt h3 HE
    go_enter Try.func62, Try.ntmps62
    go_wp2_with (first | (go_at_call 98; refine HN.out.mono ?_; rintro e w' ⟨rfl, hw⟩; cases hw.symm) | (go_at_call 99; refine HH.out.mono ?_; rintro e w' ⟨rfl, hw⟩; cases hw.symm))
    go_ret3
    exact ⟨rfl, rfl⟩
theorem take_far (h : IntM B w bi bm F M f) (hl : len ≤ 256) (hn : n < 4294967296) (ha : F + 16 ≤ n) (hf : f n = none) : Calls Try.prog 62 #[.pointer (some ⟨bi, 0, none⟩), .int .u32 (n : Int), .slice q len cap] w fun e w' => e = .returned (.tuple #[.slice none 0 0, .int .i64 3, .int .i64 0]) ∧ w = w' := by
  obtain ⟨c0, c1, _⟩ := int_cells h.o
  have HN := Lib.hid (none_any bi F (some bm) w h.o)
  have HH := Lib.hid (has7_any bi F bm n hn M w h.o h.m)
  have h1 : ((256 : Int) < (len : Int)) = False := by simp; omega
  rw [h.has n, hf] at HH
  have h2 : ((n : Int) < (F : Int)) = False := by simp; omega
  have h3 : IntKind.u32.wrap ((n : Int) - (F : Int)) = (n : Int) - (F : Int) := by rw [IntKind.wrap_u32]; omega
  have h4 : ((16 : Int) ≤ (n : Int) - (F : Int)) = True := by simp; omega
  clear h hl ha hf hn
  go_enter Try.func62, Try.ntmps62
  go_wp2_with (first | (go_at_call 98; refine HN.out.mono ?_; rintro e w' ⟨rfl, hw⟩; cases hw.symm) | (go_at_call 99; refine HH.out.mono ?_; rintro e w' ⟨rfl, hw⟩; cases hw.symm))
  go_ret3
  exact ⟨rfl, rfl⟩
end

/-- Where a payload's value comes from: M had it, or it is new since n blocks were there. -/
def Old (M : Ents) (n : Nat) (u : Value) : Prop := (∃ k, (k, u) ∈ M) ∨ ∀ g, u.ownBlock = some g → n ≤ g
def Pays (B : Nat) (W : World) (vals : List Value) (L : List (List Nat)) : Prop := vals.length = L.length ∧ ∀ (j : Nat) u p, vals[j]? = some u → L[j]? = some p → PayAt B W u p
/-- What is handed on from F on. -/
def Drained (F : Nat) (f : Kept7) (L : List (List Nat)) : Prop := (∀ (j : Nat) p, L[j]? = some p → f (F + j) = some p) ∧ f (F + L.length) = none
theorem Drained.le {F : Nat} {f : Kept7} {L L' : List (List Nat)} (h : Drained F f L) (h' : Drained F f L') : L.length ≤ L'.length := by
  refine Nat.le_of_not_lt fun hlt => ?_
  have := h.1 L'.length _ (List.getElem?_eq_getElem hlt)
  rw [h'.2] at this; cases this
theorem Drained.uniq {F : Nat} {f : Kept7} {L L' : List (List Nat)} (h : Drained F f L) (h' : Drained F f L') : L = L' := by
  have hl : L.length = L'.length := Nat.le_antisymm (h.le h') (h'.le h)
  refine List.ext_getElem hl fun j h1 h2 => ?_
  have e1 := h.1 j _ (List.getElem?_eq_getElem h1)
  have e2 := h'.1 j _ (List.getElem?_eq_getElem h2)
  rw [e1] at e2
  exact Option.some.inj e2
theorem OwnAt.low {B B' : Nat} {W : World} {e : TypeId} {v : Value} {vals : List Value} (h : OwnAt B W e v vals) (hB : B' ≤ B) : OwnAt B' W e v vals := by
  rcases h with h | ⟨g, off, cap, cur, rfl, hb, rest⟩
  · exact .inl h
  · exact .inr ⟨g, off, cap, cur, rfl, by omega, rest⟩
theorem mem_putE {M : Ents} {k : Nat} {v : Value} {p : Nat × Value} : p ∈ putE M k v ↔ (p ∈ M ∧ p.1 ≠ k) ∨ p = (k, v) := by
  unfold putE
  rw [List.mem_append, mem_delE]; simp
theorem IntM.put {B : Nat} {W W1 W2 : World} {bi bm F n : Nat} {M : Ents} {f : Kept7} {v : Value} {p : List Nat} (h : IntM B W bi bm F M f) (hs : Step [] W W1) (hp : PayAt B W1 v p) (hm : MapV W2 bm (putE M n v)) (h2 : Step [bm] W1 W2) :
    IntM B W2 bi bm F (putE M n v) (setK f n (some p)) := by
  have h1 := h.same hs
  obtain ⟨es, c, hb⟩ := h1.m.block
  have hap : ∀ i ∈ [bm], ∀ cur, W1.heap[i]? ≠ some (.cells cur 5 (0, 0)) := fun i hi cur hc => by
    simp at hi; subst hi; rw [hb] at hc; cases hc
  refine ⟨obj_step h1.o h2 (by simp; exact h1.ne), h.lo, hm, ⟨nodup_put h.r.nd n v, fun k x hx => ?_, fun k q hq => ?_⟩⟩
  · rcases mem_putE.1 hx with ⟨hx1, hx2⟩ | hx
    · obtain ⟨q, h3, h4⟩ := h1.r.to k x hx1
      exact ⟨q, by rw [setK_other _ _ hx2]; exact h3, h4.1.step h2 (fun g hg hm => by obtain ⟨cur, hc⟩ := h4.block hg; exact hap g hm cur hc), h4.2⟩
    · injection hx with e1 e2
      subst e1; subst e2
      exact ⟨p, setK_same _ _ _, hp.1.step h2 (fun g hg hm => by obtain ⟨cur, hc⟩ := hp.block hg; exact hap g hm cur hc), hp.2⟩
  · by_cases e : k = n
    · subst e; exact ⟨v, mem_putE.2 (.inr rfl)⟩
    · rw [setK_other _ _ e] at hq
      obtain ⟨x, hx⟩ := h.r.fro k q hq
      exact ⟨x, mem_putE.2 (.inl ⟨hx, e⟩)⟩
theorem len_putE {M : Ents} (hn : (M.map Prod.fst).Nodup) (k : Nat) (v : Value) (hh : hasE M k = false) : (putE M k v).length = M.length + 1 := by
  have := len_del hn k
  rw [hh] at this
  simp at this
  unfold putE; rw [List.length_append]; simp; omega
set_option maxRecDepth 100000 in
set_option maxHeartbeats 2000000 in
theorem take_ok (B bi bm F : Nat) (M : Ents) (f : Kept7) (q : Option Addr) (cap n : Nat) (p : List Nat) (w : World) (h : IntM B w bi bm F M f) (hB : B ≤ w.heap.size) (hl : p.length ≤ 256) (hp : ∀ x ∈ p, x < 256) (hr : Reads w (.slice q p.length cap) (u8s p))
    (hn : n < 4294967296) (hF : F + (M.length + 1) < 4294967296) (hM : M.length ≤ 900) (h1 : F ≤ n) (h2 : n < F + 16) (hf : f n = none) :
    Calls Try.prog 62 #[.pointer (some ⟨bi, 0, none⟩), .int .u32 (n : Int), .slice q p.length cap] w fun e w' => ∃ v vals L M', e = .returned (.tuple #[v, .int .i64 1, .int .i64 0]) ∧ OwnAt w.heap.size w' 71 v vals ∧ Pays B w' vals L ∧ Drained F (setK f n (some p)) L ∧
      IntM B w' bi bm (F + L.length) M' (behind7 F (setK f n (some p)) L.length) ∧ M'.length + L.length = M.length + 1 ∧ (∀ q ∈ M', Old M w.heap.size q.2) ∧ (∀ u ∈ vals, Old M w.heap.size u) ∧ Step [bi, bm] w w' := by
  obtain ⟨c0, c1, _⟩ := int_cells h.o
  have HN := Lib.hid (none_any bi F (some bm) w h.o)
  have HH := Lib.hid (has7_any bi F bm n hn M w h.o h.m)
  rw [h.has n, hf] at HH
  have HE0 := Lib.hid (show hasE M n = false by rw [h.has n, hf]; rfl)
  have e1 : ((256 : Int) < (p.length : Int)) = False := by simp; omega
  have e2 : ((n : Int) < (F : Int)) = False := by simp; omega
  have e3 : IntKind.u32.wrap ((n : Int) - (F : Int)) = (n : Int) - (F : Int) := by rw [IntKind.wrap_u32]; omega
  have e4 : ((16 : Int) ≤ (n : Int) - (F : Int)) = False := by simp; omega
  have H := Lib.hid (And.intro h (And.intro hr (And.intro hp hl)))
  have HB := Lib.hid (And.intro hB (And.intro hF (And.intro hM hn)))
  obtain ⟨len, hlen⟩ : ∃ len, len = p.length := ⟨_, rfl⟩
  have HL := Lib.hid hlen
  rw [← hlen] at e1 ⊢
  clear h hl hp hr hn hF hM h1 h2 hf hB hlen
  go_enter Try.func62, Try.ntmps62
  go_wp2_with (first | (go_at_call 98; refine HN.out.mono ?_; rintro e w' ⟨rfl, hw⟩; cases hw.symm) | (go_at_call 99; refine HH.out.mono ?_; rintro e w' ⟨rfl, hw⟩; cases hw.symm))
  clear HN HH e1 e2 e3 e4 c0
  go_region_held3 (fun W => W.cell? ⟨bi, 1, none⟩ = some (.map (some bm)))
    (first | exact c1 | assumption)
    (first | (go_at_call 93; refine (clone_any _ (u8s p) (u8s_one p) (by rw [u8s_length]; have := H.out.2.2.2; omega) _ (by rw [HL.out]; exact H.out.2.1.same (Step.drew (S := []) w))).mono ?_; rintro e w' ⟨v', rfl, ho, hs⟩;
              have hI := H.out.1.same ((Step.drew (S := []) w).trans hs);
              obtain ⟨w5, hput, hm5, hs5⟩ := hI.m.put Try.underlying99 (by have := HB.out.2.2.1; omega) HB.out.2.2.2 v';
              have k4 := (int_cells hI.o).2.1;
              have k5 : w5.cell? ⟨bi, 1, none⟩ = some (.map (some bm)) := (int_cells (show IntObj w5 bi F (some bm) from obj_step hI.o hs5 (by simp; exact hI.ne))).2.1;
              have HX := Lib.hid (And.intro ho (And.intro hs (And.intro hm5 hs5))); clear ho hs hI hm5 hs5))
  rename_i hHeld
  clear hHeld k4 k5 hput c1
  have hpay : PayAt B w' v' p := ⟨HX.out.1.low (by have := HB.out.1; exact this), H.out.2.2.2, H.out.2.2.1⟩
  have h5 := H.out.1.put ((Step.drew w).trans HX.out.2.1) hpay HX.out.2.2.1 HX.out.2.2.2
  have hs5 : Step [bi, bm] w w5 := ((Step.drew w).trans HX.out.2.1).nil_mono.trans (HX.out.2.2.2.mono (fun i hi _ => by simp at hi ⊢; exact .inr hi))
  have h6 := h5.same (Step.alloc (S := []) w5 (.cells #[.pointer (some ⟨bi, 0, none⟩)] 98))
  have hb6 := Boxed.new w5 98 (.pointer (some ⟨bi, 0, none⟩))
  have hlp := len_putE H.out.1.r.nd n v' HE0.out
  have HC := Lib.hid (collectReady_any B bi bm w5.heap.size F (setK f n (some p)) (putE M n v') (by have := HB.out.2.1; omega) (by have := HB.out.2.2.1; omega) _ h6 hb6)
  have H5 := Lib.hid (And.intro hs5 (And.intro hlp h6))
  have hold : ∀ k u, (k, u) ∈ putE M n v' → Old M w.heap.size u := fun k u hu => by
    rcases mem_putE.1 hu with hu | hu
    · exact .inl ⟨k, hu.1⟩
    · injection hu with e1 e2
      subst e2
      exact .inr fun g hg => (HX.out.1.block hg).1
  have HO := Lib.hid hold
  clear hpay h5 hs5 h6 hb6 hlp hold
  go_wp2_with (first | (go_at_call 101; refine (ready_any _ _).mono ?_; rintro e w' ⟨rfl, rfl⟩) | (go_at_call 100; refine HC.out.mono ?_; rintro e w' ⟨v, vals, M', rfl, g1, g2, g3, g4, g5, g6, g7⟩; have HG := Lib.hid (And.intro g1 (And.intro g2 (And.intro g3 (And.intro g4 (And.intro g5 (And.intro g6 g7)))))); clear g1 g2 g3 g4 g5 g6 g7))
  go_ret3
  obtain ⟨g1, g2, g3, g4, g5, g6, g7⟩ := HG.out
  obtain ⟨hs5, hlp, h6⟩ := H5.out
  have hget : ∀ (j : Nat) u, vals[j]? = some u → ∃ p', setK f n (some p) (F + j) = some p' ∧ PayAt B w' u p' := fun j u hu => by
    obtain ⟨p', h1, h2⟩ := h6.r.to _ _ (g2 j u hu)
    exact ⟨p', h1, h2.1.step g7 (h6.apart _ (g2 j u hu)), h2.2⟩
  have hlen : ((List.range vals.length).map fun j => (setK f n (some p) (F + j)).getD []).length = vals.length := by simp
  have hL : ∀ (j : Nat) p', ((List.range vals.length).map fun j => (setK f n (some p) (F + j)).getD [])[j]? = some p' → j < vals.length ∧ p' = (setK f n (some p) (F + j)).getD [] := fun j p' hj => by
    rw [List.getElem?_map] at hj
    by_cases hlt : j < vals.length
    · rw [List.getElem?_range hlt] at hj
      simp at hj
      exact ⟨hlt, hj.symm⟩
    · rw [List.getElem?_eq_none (by simp; omega)] at hj
      cases hj
  refine ⟨v, vals, _, M', rfl, g1.low ?_, ⟨hlen.symm, fun j u p' hu hp' => ?_⟩, ⟨fun j p' hp' => ?_, by rw [hlen]; exact g3⟩, by rw [hlen]; exact g4, by rw [hlen]; omega, fun q hq => HO.out q.1 q.2 (g6 q hq), fun u hu => ?_, ?_⟩
  · have := hs5.size
    simp; omega
  · obtain ⟨p2, h1, h2⟩ := hget j u hu
    rw [(hL j p' hp').2, h1]
    exact h2
  · obtain ⟨hlt, rfl⟩ := hL j p' hp'
    obtain ⟨p2, h1, _⟩ := hget j _ (List.getElem?_eq_getElem hlt)
    rw [h1]; rfl
  · obtain ⟨j, hj, rfl⟩ := List.mem_iff_getElem.1 hu
    exact HO.out _ _ (g2 j _ (List.getElem?_eq_getElem hj))
  · exact (hs5.trans (Step.alloc _ _)).trans g7
end Go.Proofs.Ytbainekfbonbjaa
