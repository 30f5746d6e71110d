/- window: Wakes, Bytes. No statement is proved here; nothing is assumed. -/
import Derived.Test.YtbainekfbonbjaaWinD
namespace Go.Proofs.Ytbainekfbonbjaa
open Go.RowKit Go.Shelf
set_option linter.unusedVariables false
set_option linter.unusedSimpArgs false
attribute [local go_sem] Oper.semAt_some

/-- The earliest time that one is due. -/
def MinAt (g : Kept6) (t : Nat) : Prop := (∃ k x, g k = some x ∧ x.2.2 = t) ∧ ∀ k x, g k = some x → t ≤ x.2.2
theorem MinAt.uniq {g : Kept6} {t t' : Nat} (h : MinAt g t) (h' : MinAt g t') : t = t' := by
  obtain ⟨⟨k, x, h1, h2⟩, h3⟩ := h
  obtain ⟨⟨k', x', h1', h2'⟩, h3'⟩ := h'
  have := h3 k' x' h1'
  have := h3' k x h1
  omega
theorem rangeLeft_alloc (W : World) (o : Obj) (b r : Nat) (hb : b < W.heap.size) (hr : r < W.heap.size) : (W.alloc o).rangeLeft b r = W.rangeLeft b r := by
  have e1 : (W.alloc o).heap[b]? = W.heap[b]? := by rw [heap_alloc_get, if_neg (by omega)]
  have e2 : (W.alloc o).heap[r]? = W.heap[r]? := by rw [heap_alloc_get, if_neg (by omega)]
  simp only [World.rangeLeft, e1, e2]
section
variable {B b sp bm u lim a z : Nat} {M : Ents} {g : Kept6} {w : World}
theorem wakes6_none (h : WinM B w b sp bm u lim a z M g) (hM : M.length = 0) : Calls Try.prog 55 #[.pointer (some ⟨b, 0, none⟩)] w fun e w' => e = .returned (.tuple #[.int .i64 0, .bool false]) ∧ w = w' := by
  have HN := Lib.hid (none6_any b sp a z bm w h.o)
  obtain ⟨_, _, _, c3⟩ := win_cells h.o
  have hlen := h.m.len Try.underlying93
  rw [hM] at hlen
  clear h hM
  go_enter Try.func55, Try.ntmps55
  go_wp2_with (go_at_call 92; refine HN.out.mono ?_; rintro e w' ⟨rfl, hw⟩; cases hw.symm)
  go_ret2
  exact ⟨rfl, rfl⟩
/-- What Wakes's rounds keep. -/
def WakAt (w : World) (bm r : Nat) (M : Ents) (g : Kept6) (f : Int) (W : World) : Prop := ∃ L, RngV W bm r M L ∧ Step [] w W ∧ ((f = -1 ∧ ∀ q ∈ M, q ∈ L) ∨ ∃ t : Nat, f = (t : Int) ∧ (∃ k x, g k = some x ∧ x.2.2 = t) ∧ ∀ q ∈ M, q ∉ L → ∀ x, g q.1 = some x → t ≤ x.2.2)
set_option maxRecDepth 100000 in
set_option maxHeartbeats 2000000 in
theorem wakes6_some (h : WinM B w b sp bm u lim a z M g) (hM : M.length ≠ 0) (hM2 : M.length ≤ 1000) : Calls Try.prog 55 #[.pointer (some ⟨b, 0, none⟩)] w fun e w' => ∃ t : Nat, e = .returned (.tuple #[.int .i64 (t : Int), .bool true]) ∧ MinAt g t ∧ Step [] w w' := by
  have HN := Lib.hid (none6_any b sp a z bm w h.o)
  obtain ⟨_, _, _, c3⟩ := win_cells h.o
  have hlen := h.m.len Try.underlying93
  have e0 : ((M.length : Int) == 0) = false := by simp; intro e; rw [e] at hM; exact hM rfl
  obtain ⟨W2, hrun, hrg, hgr, hz2⟩ := h.m.range (t := 93) (e := 135) Try.underlying93
  have hs2 : Step [] w W2 := Step.ofGrown hgr
  obtain ⟨r, hr⟩ : ∃ r, r = w.heap.size := ⟨_, rfl⟩
  rw [← hr] at hrun hrg
  have h0 : WakAt w bm r M g (-1) W2 := ⟨M, hrg, hs2, .inl ⟨rfl, fun _ h => h⟩⟩
  have H := Lib.hid (And.intro h (And.intro hM (And.intro hr h0)))
  clear h hM h0 hrg hs2 hgr hz2 hr
  go_enter Try.func55, Try.ntmps55
  go_wp2_with (go_at_call 92; refine HN.out.mono ?_; rintro e w' ⟨rfl, hw⟩; cases hw.symm)
  clear hrun hlen e0 c3 HN
  go_loopw [4] (fun f wr => ∃ fi : Int, f = .int .i64 fi ∧ Hid (WakAt w bm r M g fi wr)) (fun f wr => wr.rangeLeft bm r)
  case atStart => exact ⟨-1, rfl, H.out.2.2.2⟩
  case round =>
    obtain ⟨fi, rfl, hI⟩ := hrel
    obtain ⟨L, hrng, hst, hmin⟩ := hI.out
    rcases hrng.next 0 with ⟨rfl, hnx⟩ | ⟨k, v, W3, hm, hk, hnx, hr3, hlt, hg3, hz3, hen⟩
    · clear hI
      have HX := Lib.hid (And.intro hst hmin)
      clear hst hmin hrng
      go_wp2_with fail
      go_ret2
      obtain ⟨hst, hmin⟩ := HX.out
      rcases hmin with ⟨_, hall⟩ | ⟨t, rfl, hex, hle⟩
      · exfalso
        have hnil : M = [] := by
          cases hMM : M with
          | nil => rfl
          | cons q t => exact absurd (hall q (by rw [hMM]; simp)) (by simp)
        exact H.out.2.1 (by rw [hnil]; rfl)
      · refine ⟨t, rfl, ⟨hex, fun k x hx => ?_⟩, hst⟩
        obtain ⟨v, hv⟩ := H.out.1.r.fro k x hx
        exact hle _ hv (by simp) x hx
    · obtain ⟨⟨p, t, at'⟩, hx, pl, rfl, hpay⟩ := H.out.1.r.to k v (hrng.sub _ hm)
      obtain ⟨pq, pc, rfl, _, _⟩ := hpay.1.form
      have hst3 : Step [] w W3 := hst.iter hg3 (by rw [H.out.2.2.1]; exact Nat.le_refl _)
      have hgone : ∀ q ∈ M, q ∉ delE L k → q ∉ L ∨ q.1 = k := fun q _ hq => by
        by_cases e : q.1 = k
        · exact .inr e
        · exact .inl fun h => hq (mem_delE.2 ⟨h, e⟩)
      obtain ⟨hl1, hl2⟩ := hr3.lt
      have HX := Lib.hid (And.intro hr3 (And.intro hlt (And.intro hst3 (And.intro hx (And.intro hgone (And.intro hl1 hl2))))))
      rcases hmin with ⟨rfl, hall⟩ | ⟨t0, rfl, hex, hle⟩
      · have HA := Lib.hid hall
        clear hall hI hrng hst hm hg3 hz3 hr3 hlt hst3 hx hgone hl1 hl2 hpay
        go_wp2_with fail
        go_roundw
        case rel => exact ⟨(at' : Int), rfl, ⟨delE L k, HX.out.1.step (Step.alloc (S := []) _ _) (by simp) (by simp), HX.out.2.2.1.trans (Step.alloc _ _), .inr ⟨at', rfl, ⟨k, _, HX.out.2.2.2.1, rfl⟩, fun q hq hn x hx => by
              rcases HX.out.2.2.2.2.1 q hq hn with h | h
              · exact absurd (HA.out q hq) h
              · rw [h, HX.out.2.2.2.1] at hx; cases hx; exact Nat.le_refl _⟩⟩⟩
        case measure => rw [rangeLeft_alloc _ _ _ _ HX.out.2.2.2.2.2.1 HX.out.2.2.2.2.2.2]; exact HX.out.2.1
      · have s0 : ((t0 : Int) < 0) = False := eq_false (by omega)
        have HE := Lib.hid (And.intro hex hle)
        by_cases hat : at' < t0
        · have s1 : ((at' : Int) < (t0 : Int)) = True := by simp; omega
          clear hI hrng hst hm hg3 hz3 hr3 hlt hst3 hx hgone hl1 hl2 hpay hex hle
          go_wp2_with fail
          go_roundw
          case rel => exact ⟨(at' : Int), rfl, ⟨delE L k, HX.out.1.step (Step.alloc (S := []) _ _) (by simp) (by simp), HX.out.2.2.1.trans (Step.alloc _ _), .inr ⟨at', rfl, ⟨k, _, HX.out.2.2.2.1, rfl⟩, fun q hq hn x hx => by
              rcases HX.out.2.2.2.2.1 q hq hn with h | h
              · have := HE.out.2 q hq h x hx; omega
              · rw [h, HX.out.2.2.2.1] at hx; cases hx; exact Nat.le_refl _⟩⟩⟩
          case measure => rw [rangeLeft_alloc _ _ _ _ HX.out.2.2.2.2.2.1 HX.out.2.2.2.2.2.2]; exact HX.out.2.1
        · have s1 : ((at' : Int) < (t0 : Int)) = False := by simp; omega
          clear hI hrng hst hm hg3 hz3 hr3 hlt hst3 hx hgone hl1 hl2 hpay hex hle
          go_wp2_with fail
          go_roundw
          case rel => exact ⟨(t0 : Int), rfl, ⟨delE L k, HX.out.1.step (Step.alloc (S := []) _ _) (by simp) (by simp), HX.out.2.2.1.trans (Step.alloc _ _), .inr ⟨t0, rfl, HE.out.1, fun q hq hn x hx => by
              rcases HX.out.2.2.2.2.1 q hq hn with h | h
              · exact HE.out.2 q hq h x hx
              · rw [h, HX.out.2.2.2.1] at hx; cases hx; show t0 ≤ at'; omega⟩⟩⟩
          case measure => rw [rangeLeft_alloc _ _ _ _ HX.out.2.2.2.2.2.1 HX.out.2.2.2.2.2.2]; exact HX.out.2.1
/-- How many bytes a number keeps. -/
def lenG (g : Kept6) (k : Nat) : Nat := ((g k).map fun x => x.1.length).getD 0
def sumG (g : Kept6) (l : List Nat) : Nat := (l.map (lenG g)).sum
theorem sumG_perm {g : Kept6} {l l' : List Nat} (h : l.Perm l') : sumG g l = sumG g l' := by
  unfold sumG; exact (h.map _).sum_nat
theorem sumG_del {g : Kept6} {L : Ents} (hn : (L.map Prod.fst).Nodup) {k : Nat} {v : Value} (hm : (k, v) ∈ L) : lenG g k + sumG g ((delE L k).map Prod.fst) = sumG g (L.map Prod.fst) := by
  have hp : (L.map Prod.fst).Perm (k :: (delE L k).map Prod.fst) := by
    refine perm_nodup hn (List.nodup_cons.2 ⟨fun h => (keys_delE.1 h).2 rfl, nodup_del hn k⟩) fun j => ?_
    rw [List.mem_cons, keys_delE]
    constructor
    · intro hj
      by_cases e : j = k
      · exact .inl e
      · exact .inr ⟨hj, e⟩
    · rintro (rfl | h)
      · exact List.mem_map.2 ⟨_, hm, rfl⟩
      · exact h.1
  rw [sumG_perm hp]
  unfold sumG
  simp
theorem sumG_le {g : Kept6} (l : List Nat) (h : ∀ k ∈ l, lenG g k ≤ 256) : sumG g l ≤ 256 * l.length := by
  induction l with
  | nil => simp [sumG]
  | cons k t ih =>
    have h1 := ih (fun j hj => h j (List.mem_cons_of_mem _ hj))
    have h2 := h k (by simp)
    have e : sumG g (k :: t) = lenG g k + sumG g t := by simp [sumG]
    rw [e, List.length_cons]; omega
theorem bytes6_any (h : WinM B w b sp bm u lim a z M g) (hM2 : M.length ≤ 1000) : Calls Try.prog 58 #[.pointer (some ⟨b, 0, none⟩)] w fun e w' => e = .returned (.int .i64 (sumG g (keysG g u) : Int)) ∧ Step [] w w' := by
  have HN := Lib.hid (none6_any b sp a z bm w h.o)
  obtain ⟨_, _, _, c3⟩ := win_cells h.o
  obtain ⟨W2, hrun, hrg, hgr, hz2⟩ := h.m.range (t := 93) (e := 135) Try.underlying93
  have hs2 : Step [] w W2 := Step.ofGrown hgr
  obtain ⟨r, hr⟩ : ∃ r, r = w.heap.size := ⟨_, rfl⟩
  rw [← hr] at hrun hrg
  rw [← sumG_perm (h.r.perm h.kb)]
  have hsm : sumG g (M.map Prod.fst) ≤ 256 * 1000 := by
    refine Nat.le_trans (sumG_le _ fun k hk => ?_) (by rw [List.length_map]; omega)
    obtain ⟨⟨k', v⟩, hv, rfl⟩ := List.mem_map.1 hk
    obtain ⟨x, hx, pl, _, hp⟩ := h.r.to k' v hv
    unfold lenG
    rw [hx]
    exact hp.2.1
  have HS := Lib.hid hsm
  have H := Lib.hid (And.intro h (And.intro hr (And.intro hrg hs2)))
  obtain ⟨T, hT⟩ : ∃ T, T = sumG g (M.map Prod.fst) := ⟨_, rfl⟩
  rw [← hT] at HS ⊢
  have HT := Lib.hid hT
  clear h hrg hs2 hgr hz2 hr hsm hT
  go_enter Try.func58, Try.ntmps58
  go_wp2_with (go_at_call 92; refine HN.out.mono ?_; rintro e w' ⟨rfl, hw⟩; cases hw.symm)
  clear hrun c3 HN
  go_loopw [3] (fun f wr => ∃ n : Nat, f = .int .i64 (n : Int) ∧ Hid (∃ L, RngV wr bm r M L ∧ Step [] w wr ∧ (L.map Prod.fst).Nodup ∧ n + sumG g (L.map Prod.fst) = T)) (fun f wr => wr.rangeLeft bm r)
  case atStart => exact ⟨0, rfl, M, H.out.2.2.1, H.out.2.2.2, H.out.1.r.nd, by rw [HT.out]; omega⟩
  case round =>
    obtain ⟨n, rfl, hI⟩ := hrel
    obtain ⟨L, hrng, hst, hnd, hsum⟩ := hI.out
    rcases hrng.next 0 with ⟨rfl, hnx⟩ | ⟨k, v, W3, hm, hk, hnx, hr3, hlt, hg3, hz3, hen⟩
    · have hn : n = T := by have : sumG g ([] : List Nat) = 0 := rfl; simp at hsum; omega
      subst hn
      have HX := Lib.hid hst
      clear hI hst hsum hnd hrng
      go_wp2_with fail
      go_ret
      exact ⟨rfl, HX.out⟩
    · obtain ⟨⟨p, t, at'⟩, hx, pl, rfl, hpay⟩ := H.out.1.r.to k v (hrng.sub _ hm)
      obtain ⟨pq, pc, rfl, _, _⟩ := hpay.1.form
      have hst3 : Step [] w W3 := hst.iter hg3 (by rw [H.out.2.1]; exact Nat.le_refl _)
      obtain ⟨hl1, hl2⟩ := hr3.lt
      have hd := sumG_del (g := g) hnd hm
      have hlk : lenG g k = p.length := by unfold lenG; rw [hx]; rfl
      obtain ⟨pn, hpn⟩ : ∃ pn, pn = p.length := ⟨_, rfl⟩
      dsimp only at hlk hm hnx hen
      rw [← hpn] at hlk
      rw [u8s_length, ← hpn] at hm hnx hen
      have hT2 : T ≤ 256000 := HS.out
      have hb1 : n ≤ 256000 := by omega
      have hb2 : pn ≤ 256000 := by omega
      have hwr : IntKind.i64.wrap ((n : Int) + (pn : Int)) = (n : Int) + (pn : Int) := by rw [IntKind.wrap_i64]; omega
      have HX := Lib.hid (And.intro hr3 (And.intro hlt (And.intro hst3 (And.intro (nodup_del hnd k) (And.intro (show n + pn + sumG g ((delE L k).map Prod.fst) = T by omega) (And.intro hl1 hl2))))))
      clear hI hrng hst hm hg3 hz3 hr3 hlt hst3 hx hl1 hl2 hpay hd hlk hpn hnd hsum hT2
      go_wp2_with fail
      go_roundw
      case rel => exact ⟨n + pn, by go_num, delE L k, HX.out.1.step (Step.alloc (S := []) _ _) (by simp) (by simp), HX.out.2.2.1.trans (Step.alloc _ _), HX.out.2.2.2.1, HX.out.2.2.2.2.1⟩
      case measure => rw [rangeLeft_alloc _ _ _ _ HX.out.2.2.2.2.2.1 HX.out.2.2.2.2.2.2]; exact HX.out.2.1
end
end Go.Proofs.Ytbainekfbonbjaa
