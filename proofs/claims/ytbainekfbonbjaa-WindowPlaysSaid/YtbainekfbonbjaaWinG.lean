/- window: Ack. No statement is proved here; nothing is assumed. -/
import Derived.Test.YtbainekfbonbjaaWinF
namespace Go.Proofs.Ytbainekfbonbjaa
open Go.RowKit Go.Shelf
set_option linter.unusedVariables false
set_option linter.unusedSimpArgs false
attribute [local go_sem] Oper.semAt_some

section
variable {B b sp bm u lim a z : Nat} {M : Ents} {g : Kept6} {w : World}
theorem WinM.calm {W W' : World} {B' : Nat} (h : WinM B W b sp bm u lim a z M g) (hc : Calm B' W W') : WinM B W' b sp bm u lim a z M g :=
  ⟨obj_calm h.o hc rfl, obj_calm h.s hc rfl, h.lo, h.m.calm hc, h.r.mono fun k v x _ hi => by
    obtain ⟨pl, h1, h2⟩ := hi
    exact ⟨pl, h1, h2.calm hc⟩, h.ul, h.az, h.kb⟩
set_option maxRecDepth 100000 in
set_option maxHeartbeats 4000000 in
theorem ack6_any (h : WinM B w b sp bm u lim a z M g) (hM : M.length ≤ 1000) (ack mask : Nat) (ha : ack ≤ u) (hmk : mask < 4294967296) :
    Calls Try.prog 51 #[.pointer (some ⟨b, 0, none⟩), .int .u32 (ack : Int), .int .u32 (mask : Int)] w fun e w' => ∃ M', e = .returned (.int .i64 ((M.length : Int) - (M'.length : Int))) ∧ WinM B w' b sp bm u lim a z M' (ackG ack mask g) ∧ M'.length ≤ M.length ∧ Step [bm] w w' := by
  have hs0 : Step [] w (w.alloc (.cells #[.pointer (some ⟨b, 0, none⟩)] 64)) := Step.alloc _ _
  have h1 := h.same hs0
  have hb3 := Boxed.new w 64 (.pointer (some ⟨b, 0, none⟩))
  have hbw : bm < w.heap.size := by obtain ⟨es, c, hb⟩ := h.m.block; exact heap_lt hb
  obtain ⟨w0, hw0⟩ : ∃ w0, w0 = w.alloc (.cells #[.pointer (some ⟨b, 0, none⟩)] 64) := ⟨_, rfl⟩
  have hz0 : w0.heap.size = w.heap.size + 1 := by rw [hw0]; simp
  rw [← hw0] at hs0 h1 hb3
  have HN := Lib.hid (none6_any b sp a z bm _ h1.o)
  obtain ⟨c0, _, _, c3⟩ := win_cells h1.o
  have HU := Lib.hid (used_any sp u lim h.ul.2.1 _ h1.s)
  have e1 : ((u : Int) < (ack : Int)) = False := by simp; omega
  have hlen := h1.m.len Try.underlying93
  obtain ⟨W2, hrun, hrg, hgr, hz2⟩ := h1.m.range (t := 93) (e := 135) Try.underlying93
  have hs2 : Step [] w0 W2 := Step.ofGrown hgr
  have hc3 := hb3.cell
  obtain ⟨r, hr⟩ : ∃ r, r = w0.heap.size := ⟨_, rfl⟩
  rw [← hr] at hrun hrg
  obtain ⟨b3, hb3e⟩ : ∃ b3, b3 = w.heap.size := ⟨_, rfl⟩
  rw [← hb3e] at hb3 hc3
  have h2 : AckAt B w b sp bm u lim a z ack M.length r b3 g W2 := ⟨M, M, by rw [G1_all h.r]; exact h1.same hs2, Nat.le_refl _, hrg, (hs0.trans hs2).nil_mono, boxed_step hb3 hs2 (by simp)⟩
  have H := Lib.hid (And.intro h (And.intro h2 (And.intro hM (And.intro ha (And.intro hmk (And.intro hr (And.intro hz0 (And.intro hb3e hbw))))))))
  clear h h1 h2 hrg hs2 hgr hz2 hr ha hmk hz0 hs0 hM hbw
  refine (callsIn_wide (n := 0)).1 (callsIn_of_wp_marks Try.func51 rfl trivial ?_ rfl)
  simp only [Try.ntmps51, List.size_toArray, List.length_cons, List.length_nil, Nat.reduceAdd, Nat.reduceSub, Array.replicate_succ, Array.replicate_zero, List.push_toArray, List.append_toArray, List.nil_append, List.cons_append]
  gi_upto_region 1 with fail
  rw [← hw0, ← hb3e]
  clear hw0 hb3e hb3
  gi_wp2_with (first | (gi_at_call 92; refine (inW HN.out).mono ?_; rintro e w' ⟨rfl, hw⟩; cases hw.symm) | (gi_at_call 41; refine (inW HU.out).mono ?_; rintro e w' ⟨rfl, rfl⟩))
  clear hrun c0 c3 HN HU e1 hlen hc3
  gi_loopw [8] (fun f wr => f = f ∧ Hid (AckAt B w b sp bm u lim a z ack M.length r b3 g wr)) (fun f wr => wr.rangeLeft bm r)
  case atStart => exact ⟨rfl, H.out.2.1⟩
  case round =>
    obtain ⟨_, hI⟩ := hrel
    obtain ⟨M1, L, hW, hML, hrng, hst, hbx⟩ := hI.out
    have hrb : ∀ i, i = r → w.heap.size ≤ i := fun i e => by rw [e, H.out.2.2.2.2.2.1, H.out.2.2.2.2.2.2.1]; omega
    have hcb := hbx.cell
    rcases hrng.next 0 with ⟨rfl, hnx⟩ | ⟨k, v, W3, hm, hk, hnx, hr3, hlt, hg3, hz3, hen⟩
    · rw [G1_nil] at hW
      have HD := Lib.hid (And.intro hW (And.intro hML (And.intro hst hbx)))
      have hmk := H.out.2.2.2.2.1
      have hak : ack < 4294967296 := by have := H.out.1.ul; have := H.out.2.2.2.1; omega
      clear hI hW hML hrng hst hbx hcb hrb
      gi_wp2_with (gi_at_call 29; refine (inW (told_any _ _ _)).mono ?_; rintro e w12 ⟨rfl, hw12⟩; have HW12 := Lib.hid hw12; clear hw12)
      obtain ⟨hz12, hs12, t0, t1, t2, t3, t4⟩ := told_blocks _ _ _ _ HW12.out
      obtain ⟨n0, hn0⟩ : ∃ n0, n0 = wr.heap.size := ⟨_, rfl⟩
      rw [← hn0] at hz12 t0 t1 t2 t3 t4 ⊢
      have hbmr : bm < n0 := by have := H.out.2.2.2.2.2.2.2.2; have := HD.out.2.2.1.size; omega
      have hW12 := HD.out.1.same hs12
      have hst12 := HD.out.2.2.1.trans hs12.nil_mono
      have hbx12 := boxed_step HD.out.2.2.2 hs12 (by simp)
      have hwsz : w.heap.size ≤ w12.heap.size := hst12.size
      have HB := Lib.hid (And.intro hbmr (And.intro hwsz (And.intro HD.out.2.1 hmk)))
      have hak' := hak
      clear HW12 hs12 hn0
      refine range_outer1 (v := fun x : Nat => .int .u32 (x : Int)) [] rfl enters107 (told_gives ack mask n0 hak hmk) (by simp) rfl rfl
        (fun pre W => (∃ M2, WinM B W b sp bm u lim a z M2 (G2 ack g pre) ∧ M2.length ≤ M.length ∧ Step [bm] w W ∧ Boxed W b3 64 (.pointer (some ⟨b, 0, none⟩))) ∧
          (Boxed W (n0 + 1 + 1) 22 (.int .u32 (ack : Int)) ∧ (Boxed W (n0 + 1 + 1 + 1) 28 (.func (.func 108) #[] #[.pointer (some ⟨n0 + 1 + 1, 0, none⟩)]) ∧ Boxed W (n0 + 1 + 1 + 1 + 1) 27 (.func (.func 89) #[] #[.pointer (some ⟨n0 + 1, 0, none⟩), .pointer (some ⟨n0, 0, none⟩)])) ∧ (Boxed W (n0 + 1) 22 (.int .u32 (mask : Int)) ∧ Boxed W n0 22 (.int .u32 (ack : Int)))))
        (fun _ _ _ => False)
        (fun s A C h hc => ⟨by obtain ⟨M2, g1, g2, g3, g4⟩ := h.1; exact ⟨M2, g1.calm hc, g2, g3.calm hc hwsz, boxed_calm g4 hc⟩, boxed_calm h.2.1 hc, ⟨boxed_calm h.2.2.1.1 hc, boxed_calm h.2.2.1.2 hc⟩, boxed_calm h.2.2.2.1 hc, boxed_calm h.2.2.2.2 hc⟩)
        (fun _ => abide_false _) (fun pre W h => h.2) ⟨⟨M1, hW12, HD.out.2.1, hst12, hbx12⟩, t2, ⟨t3, t4⟩, t1, t0⟩
        ?body2 ?done2 ?stop2
      case body2 =>
        rintro l pre y W4 hl hlr ⟨⟨M2, g1, g2, g3, g4⟩, r1, ⟨r2, r3⟩, r4, r5⟩ hadm
        have hy32 : y < 4294967296 := (behind_mem hak (List.mem_filter.1 (hadm.subset (show y ∈ pre ++ [y] by simp))).1).2.2
        obtain ⟨W5, hdel, hm5, hs5⟩ := g1.m.drop Try.underlying93 hy32 0
        have hcb := g4.cell
        obtain ⟨_, _, _, k3⟩ := win_cells g1.o
        have HX := Lib.hid (And.intro g1 (And.intro g2 (And.intro g3 (And.intro g4 (And.intro r1 (And.intro r2 (And.intro r3 (And.intro r4 (And.intro r5 (And.intro hm5 hs5))))))))))
        simp only [frame1]
        clear g1 g2 g3 g4 r1 r2 r3 r4 r5 hm5 hs5 hadm hW12 hst12 hbx12 t0 t1 t2 t3 t4 HD
        gi_wp2
        obtain ⟨g1, g2, g3, g4, r1, r2, r3, r4, r5, hm5, hs5⟩ := HX.out
        have hnb : ∀ i, n0 ≤ i → i ∉ [bm] := fun i hi hm => by simp at hm; omega
        have hb3m : b3 ∉ [bm] := fun hm => by
          simp at hm
          obtain ⟨es, c, hb⟩ := g1.m.block
          have h4 : W4.heap[b3]? = _ := g4
          rw [hm, hb] at h4; cases h4
        refine ⟨hs5.book, ⟨delE M2 y, by rw [G2_snoc]; exact g1.drop hs5 hm5, by have := len_del g1.r.nd y; omega, g3.trans hs5, boxed_step g4 hs5 hb3m⟩, boxed_step r1 hs5 (hnb _ (by omega)), ⟨boxed_step r2 hs5 (hnb _ (by omega)), boxed_step r3 hs5 (hnb _ (by omega))⟩, boxed_step r4 hs5 (hnb _ (by omega)), boxed_step r5 hs5 (hnb _ (by omega))⟩
      case done2 =>
        rintro D xs W hD rfl ⟨⟨M2, g1, g2, g3, g4⟩, _⟩ hd
        have hcb := g4.cell
        obtain ⟨_, _, _, k3⟩ := win_cells g1.o
        have hlen := g1.m.len Try.underlying93
        have hM1000 := H.out.2.2.1
        have hwr : IntKind.i64.wrap ((M.length : Int) - (M2.length : Int)) = (M.length : Int) - (M2.length : Int) := by rw [IntKind.wrap_i64]; omega
        have HX := Lib.hid (And.intro g1 (And.intro g2 g3))
        clear g1 g2 g3 g4 hW12 hst12 hbx12 t0 t1 t2 t3 t4 HD
        gi_wp2
        refine leaves_marks (B := w12.heap.size) (results_tmp rfl _ _) [D] _ (by simp; exact ⟨hD, hd⟩) (by simp) ?_
        intro w' hc
        exact ⟨M2, rfl, HX.out.1.calm hc, HX.out.2.1, HX.out.2.2.calm hc hwsz⟩
      case stop2 =>
        rintro D c s W hD h hd
        exact h.elim
    · obtain ⟨ob, hob, hbk⟩ := hrng.iter
      have hc3 : Calm w.heap.size wr W3 := Calm.iter hg3 (hrb r rfl) hob hbk
      have hW3 := hW.calm hc3
      have hst3 : Step [bm] w W3 := hst.iter hg3 (hrb r rfl)
      have hbx3 := boxed_calm hbx hc3
      have hcb3 := hbx3.cell
      obtain ⟨_, _, _, k3⟩ := win_cells hW3.o
      obtain ⟨W4, hdel, hr4, hle4, hs4⟩ := hr3.drop Try.underlying93 hk 0
      have HX := Lib.hid (And.intro hW3 (And.intro hML (And.intro hst3 (And.intro hbx3 (And.intro hr3 (And.intro hlt (And.intro hr4 (And.intro hle4 hs4))))))))
      clear hI hW hML hrng hst hbx hcb hm hg3 hz3 hr3 hlt hob hbk hc3 hW3 hst3 hbx3 hr4 hle4 hs4 hrb
      by_cases hka : k < ack
      · have s1 : ((k : Int) < (ack : Int)) = True := by simp; omega
        have HK := Lib.hid hka
        clear hka
        gi_wp2_with fail
        go_roundw
        case rel =>
          obtain ⟨hW3, hML, hst3, hbx3, hr3, hlt, hr4, hle4, hs4⟩ := HX.out
          have hb3m : b3 ∉ [bm] := fun hm => by
            simp at hm
            obtain ⟨es, c, hb⟩ := hW3.m.block
            have h4 : W3.heap[b3]? = _ := hbx3
            rw [hm, hb] at h4; cases h4
          exact ⟨trivial, delE M1 k, delE (delE L k) k, by rw [G1_go HK.out]; exact hW3.drop hs4 hr4.mapv, by have := len_del hW3.r.nd k; omega, hr4, hst3.trans hs4, boxed_step hbx3 hs4 hb3m⟩
        case measure => have := HX.out.2.2.2.2.2.1; have := HX.out.2.2.2.2.2.2.2.1; omega
      · have s1 : ((k : Int) < (ack : Int)) = False := by simp; omega
        have HK := Lib.hid hka
        clear hka
        gi_wp2_with fail
        go_roundw
        case rel =>
          obtain ⟨hW3, hML, hst3, hbx3, hr3, hlt, hr4, hle4, hs4⟩ := HX.out
          exact ⟨trivial, M1, delE L k, by rw [G1_skip HK.out]; exact hW3, hML, hr3, hst3, hbx3⟩
        case measure => exact HX.out.2.2.2.2.2.1
end
end Go.Proofs.Ytbainekfbonbjaa
