/- NetKnown: its walk. No statement is proved here; nothing is assumed. -/
import Derived.Test.YtnomnhlfenhjdaaNetS
import Derived.OwnWalkIn
import Derived.TacticsInMore
import Derived.LoopNIn
import Derived.LoopIn
import Derived.Deep.QuietTactic
import Derived.BigQuiet
import Derived.Maps.OwnIn
import Derived.Laws.ResultCell
namespace Go.Proofs.Ytnomnhlfenhjdaa
open Go.RowKit Go.Shelf
set_option linter.unusedVariables false
set_option linter.unusedSimpArgs false
attribute [local go_sem] Oper.semAt_some

/-- make([]byte, n). -/
theorem make_bytes (n : Nat) (k : Int) (hk : k = (n : Int)) (hn : n ≤ 1000) : ∃ C : Array Value, C.toList = u8s (List.replicate n 0) ∧ ∀ w, (Instr.makeSlice 68 (.int .i64 k) (.int .i64 k)).run Try.prog w = .ok (.slice (some ⟨w.heap.size, 0, none⟩) n n) (w.alloc (.cells C 5)) := by
  obtain ⟨i0, hi, hz0, hz1, hz2⟩ := info_parts info5
  refine ⟨madeCells (Value.int .u8 0).cells n, ?_, fun w => ?_⟩
  · refine List.ext_getElem? fun j => ?_
    by_cases hj : j < n
    · simp [madeCells, u8s, Value.cells, hj, Nat.mod_one]
    · simp [madeCells, u8s, Value.cells, hj]
  · subst hk
    have := run_makeSlice (P := Try.prog) w 68 5 i0 (.int .u8 0) Try.underlying68 hi hz0 .i64 .i64 n n (by omega) (by omega) (by rw [hz1]; simp; omega) (by rw [hz2]; omega) (by omega)
    rw [this, hz1]
    simp
theorem reads_made (w : World) (C : Array Value) (n : Nat) (f : Nat × Nat) (hC : C.toList = u8s (List.replicate n 0)) (hn : n ≤ 1000) : Reads (w.alloc (.cells C 5 f)) (.slice (some ⟨w.heap.size, 0, none⟩) n n) (u8s (List.replicate n 0)) := by
  have hl : (u8s (List.replicate n 0)).length = n := by rw [u8s_length, List.length_replicate]
  refine .inr ⟨w.heap.size, 0, n, by rw [hl], by rw [hl]; exact Nat.le_refl _, by unfold maxLen; omega, fun j hj => ?_⟩
  rw [← hC, Nat.zero_add, Array.getElem?_toList]
  have hjn : j < C.size := by rw [← Array.length_toList, hC]; exact hj
  rw [Array.getElem?_eq_getElem hjn]
  exact cells_cell (by rw [heap_alloc_get, if_pos rfl]) (Array.getElem?_eq_getElem hjn)
/-- What stays: the result's cell, the zero net. -/
def KnownBase (w W : World) : Prop := Boxed W w.heap.size 4 (.bool false) ∧ W.heap[w.heap.size + 1]? = some (.cells #[.bool false, .slice none 0 0, .slice none 0 0] 93) ∧ Step [] w W
theorem KnownBase.calm {B : Nat} {w W W' : World} (h : KnownBase w W) (hc : Calm B W W') (hB : w.heap.size ≤ B) : KnownBase w W' := ⟨boxed_calm h.1 hc, obj_calm h.2.1 hc rfl, h.2.2.calm hc hB⟩
theorem KnownBase.same {w W W' : World} (h : KnownBase w W) (hs : Step [] W W') : KnownBase w W' := ⟨boxed_step h.1 hs (by simp), obj_step h.2.1 hs (by simp), h.2.2.trans hs⟩
theorem KnownBase.zero {w W : World} (h : KnownBase w W) (way : Int) : NoWay (.pointer (some ⟨w.heap.size + 1, 0, none⟩)) way 2 W := way_zero _ _ _ (cells_cell h.2.1 rfl)
/-- What was sent, so far. -/
def sentUp (k : Nat) : List (List Value) := (List.range k).map fun j => u8s [j]
theorem sentUp_succ (k : Nat) : sentUp (k + 1) = sentUp k ++ [u8s [k]] := by simp [sentUp, List.range_succ]
theorem sentUp_length (k : Nat) : (sentUp k).length = k := by simp [sentUp]
def Sending (B bn k : Nat) (w3 W : World) : Prop := (∃ l, l 0 = sentUp k ∧ l 1 = [] ∧ NetL B W bn l) ∧ StepB B w3 W
/-- What a loop over All of no net goes along with. -/
def NoneGoing (w : World) (b1 b2 : Nat) (W : World) : Prop := KnownBase w W ∧ Boxed W b1 70 (.pointer none) ∧ Boxed W b2 3 (.int .i64 0)

theorem StepB.calm {B B' : Nat} {w0 W W' : World} (h : StepB B w0 W) (hc : Calm B' W W') (hB : w0.heap.size ≤ B') : StepB B w0 W' := by
  obtain ⟨S, h1, h2⟩ := h
  exact ⟨S, h1, h2.calm hc hB⟩
/-- What the loop over All that counts goes along with: k: what has been counted. -/
def Seen (w3 : World) (B bs ba bn : Nat) (r : Nat → Value) (e : Nat → List Sl) (l : Nat → List (List Value)) (v : Value) (k : Nat) (W : World) : Prop :=
  Boxed W bs 3 (.int .i64 (k : Int)) ∧ NetAt B W bn r e l ∧ OwnAt B W 5 v (u8s [1]) ∧ Step [bs] w3 W ∧ Boxed W ba 70 (.pointer (some ⟨bn, 0, none⟩)) ∧ Boxed W (ba + 1) 3 (.int .i64 0)
theorem Seen.calm {w3 W W' : World} {B B' bs ba bn k : Nat} {r : Nat → Value} {e : Nat → List Sl} {l : Nat → List (List Value)} {v : Value} (h : Seen w3 B bs ba bn r e l v k W) (hc : Calm B' W W') (hB : w3.heap.size ≤ B') : Seen w3 B bs ba bn r e l v k W' :=
  ⟨boxed_calm h.1 hc, h.2.1.calm hc, h.2.2.1.calm hc, h.2.2.2.1.calm hc hB, boxed_calm h.2.2.2.2.1 hc, boxed_calm h.2.2.2.2.2 hc⟩

theorem results_cell4 {fn : Func} {p : Tmp} (h : fn.results = #[.cell p 4]) (tmps : Array Value) (w : World) (g : Nat) (b : Bool) (hp : tmps.getD p undef = .pointer (some ⟨g, 0, none⟩)) (hc : w.cell? ⟨g, 0, none⟩ = some (.bool b)) : (results fn tmps).run Try.prog w = .ok (.bool b) w := by
  simp only [results, h]
  have hp' : tmps[p]?.getD undef = .pointer (some ⟨g, 0, none⟩) := by rw [← hp]; simp
  simp [Sem.run_bind, hp', asAddr, Result.andThen, go_sem, hc]
theorem leaves_marksC {P : Program} {n : Nat} {fn : Func} {tmps : Array Value} {R : Ending → World → Prop} {v : Value} {B : Nat} :
    ∀ (Ds : List Nat) (w : World), (∀ w', Calm B w w' → (results fn tmps).run P w' = .ok v w') → (∀ D ∈ Ds, B ≤ D ∧ w.heap[D]? = some (.deferred (some []))) → Ds.Nodup → (∀ w', Calm B w w' → R (.returned v) w') →
      LeavesInM Fence.wide n P fn tmps R (Ds.map markAt) .returning w
  | [], w, hres, _, _, hR => ⟨v, hres w (Calm.refl _ _), hR w (Calm.refl _ _)⟩
  | D :: Ds, w, hres, hD, hn, hR => by
    obtain ⟨hB, hd⟩ := hD D (by simp)
    rw [List.nodup_cons] at hn
    refine ⟨by simp, .inl ⟨D, _, rfl, run_takeDeferred hd, ?_⟩⟩
    have hc : Calm B w (w.putObj D (.deferred none)) := Calm.putObj _ hd rfl hB
    exact leaves_marksC Ds _ (fun w' hw => hres w' (hc.trans hw)) (fun D' h' => ⟨(hD D' (by simp [h'])).1, (World.putObj_heap_other (fun e => hn.1 (by rw [← e]; exact h'))).trans (hD D' (by simp [h'])).2⟩) hn.2 (fun w' hw => hR w' (hc.trans hw))
/-- What turns from W on alone lies behind an older world. -/
theorem StepB.after {B : Nat} {W X Y : World} (hB : W.heap.size ≤ B) (h : Step [] W X) (k : StepB B X Y) : Step [] W Y := by
  obtain ⟨S, k1, k2⟩ := k
  exact h.trans' k2 (fun i hi _ => hi) (fun i hi hl => absurd (k1 i hi).1 (by omega))
theorem Step.after {b : Nat} {W X Y : World} (hB : W.heap.size ≤ b) (h : Step [] W X) (k : Step [b] X Y) : Step [] W Y :=
  h.trans' k (fun i hi _ => hi) (fun i hi hl => by simp at hi; omega)
theorem OwnAt.apart {B : Nat} {W W' : World} {t : TypeId} {v : Value} {vals : List Value} {S : List Nat} (h : OwnAt B W t v vals) (ht : netTyped (.cells #[] t) = true) (hs : Step S W W') (hS : ∀ i ∈ S, ∀ o, W.heap[i]? = some o → netTyped o = false) : OwnAt B W' t v vals :=
  h.step hs (fun g hg hm => by
    obtain ⟨_, _, cur, hc⟩ := h.block hg
    have := hS g hm _ hc
    have h2 : netTyped (.cells cur t (0, 0)) = netTyped (.cells #[] t) := rfl
    rw [h2, ht] at this
    cases this)
theorem NetAt.apart {B : Nat} {W W' : World} {bn : Nat} {r : Nat → Value} {e : Nat → List Sl} {d : Nat → List (List Value)} {S : List Nat} (h : NetAt B W bn r e d) (hs : Step S W W') (hS : ∀ i ∈ S, ∀ o, W.heap[i]? = some o → netTyped o = false) : NetAt B W' bn r e d :=
  ⟨obj_step h.xo hs (fun hm => by have := hS bn hm _ h.xo; cases this), h.bn0, fun k hk => (h.xr k hk).apart rfl hs hS, h.xl, fun k hk j s c h1 h2 => (h.xd k hk j s c h1 h2).apart rfl hs hS, h.nr, h.ne⟩
theorem Seen.next {w3 W : World} {B bs ba bn k : Nat} {r : Nat → Value} {e : Nat → List Sl} {l : Nat → List (List Value)} {v : Value} (h : Seen w3 B bs ba bn r e l v k W) (h1 : bs ≠ ba) (h2 : bs ≠ ba + 1) :
    Seen w3 B bs ba bn r e l v (k + 1) (W.setCell ⟨bs, 0, none⟩ (.int .i64 ((k : Int) + 1))) ∧ BookX [] W (W.setCell ⟨bs, 0, none⟩ (.int .i64 ((k : Int) + 1))) ∧ ∀ B' v c, OwnAt B' W 68 v c → OwnAt B' (W.setCell ⟨bs, 0, none⟩ (.int .i64 ((k : Int) + 1))) 68 v c := by
  obtain ⟨a1, a2, a3, a4, a5, a6⟩ := h
  have hst : Step [bs] W (W.setCell ⟨bs, 0, none⟩ (.int .i64 ((k : Int) + 1))) := Step.setObj a1 rfl (by simp) _ _
  have hS : ∀ i ∈ [bs], ∀ o, W.heap[i]? = some o → netTyped o = false := fun i hi o ho => by
    simp at hi; subst hi
    rw [show W.heap[i]? = _ from a1] at ho; cases ho; rfl
  refine ⟨⟨by have := a1.set (.int .i64 ((k : Int) + 1)); simpa using this, a2.apart hst hS, a3.apart rfl hst hS, a4.trans hst, boxed_step a5 hst (by simp; exact fun e => h1 e.symm), boxed_step a6 hst (by simp; exact fun e => h2 e.symm)⟩, hst.book, fun B' v c h9 => h9.apart rfl hst hS⟩

set_option maxRecDepth 100000 in
set_option maxHeartbeats 4000000 in
theorem known_walk (w : World) :
    Calls Try.prog 9 #[] w fun e w' => e = .returned (.bool true) ∧ Step [] w w' := by
  refine (callsIn_wide (n := 0)).1 (callsIn_of_wp_marks Try.func9 rfl trivial ?_ rfl)
  simp only [Try.ntmps9, List.size_toArray, List.length_cons, List.length_nil, Nat.reduceAdd, Nat.reduceSub, Array.replicate_succ, Array.replicate_zero, List.push_toArray, List.append_toArray, List.nil_append, List.cons_append]
  gi_wp2_with fail
  generalize hw1 : (w.alloc (Obj.cells #[Value.bool false] 4)).alloc (Obj.cells #[Value.bool false, Value.slice none 0 0, Value.slice none 0 0] 93) = w1
  have hK : KnownBase w w1 := by
    refine ⟨?_, ?_, ?_⟩
    · rw [← hw1]; simp only [Boxed, heap_alloc_get, World.size_alloc]; repeat first | rfl | rw [if_pos (by omega)] | rw [if_neg (by omega)] | rw [if_pos trivial]
    · rw [← hw1]; simp only [heap_alloc_get, World.size_alloc]; repeat first | rfl | rw [if_pos (by omega)] | rw [if_neg (by omega)] | rw [if_pos trivial]
    · rw [← hw1]; exact (Step.alloc _ _).trans (Step.alloc _ _)
  have hZ : w.heap.size + 2 ≤ w1.heap.size := by rw [← hw1]; simp
  have HK := Lib.hid hK
  clear hK hw1
  refine (inW (send_no none none 0 0 0 2 (.inr rfl) w1 (way_nil 0 w1))).mono ?_
  rintro e w' ⟨rfl, rfl⟩
  gi_wp2_with fail
  refine (inW (deliver_no (some ⟨w.heap.size + 1, 0, none⟩) 0 0 2 (.inr (.inl rfl)) w1 ((HK.out.zero 0).at (.inr rfl) 0))).mono ?_
  rintro e w' ⟨rfl, rfl⟩
  gi_wp2_with fail
  refine (inW (netAll_any none 0 w1)).mono ?_
  rintro e w2 ⟨rfl, hw2⟩
  have hG : NoneGoing w w1.heap.size (w1.heap.size + 1) w2 := by
    refine ⟨HK.out.same (by rw [← hw2]; exact (Step.alloc _ _).trans (Step.alloc _ _)), ?_, ?_⟩
    · rw [← hw2]; simp only [Boxed, heap_alloc_get, World.size_alloc]; repeat first | rfl | rw [if_pos (by omega)] | rw [if_neg (by omega)] | rw [if_pos trivial]
    · rw [← hw2]; simp only [Boxed, heap_alloc_get, World.size_alloc]; repeat first | rfl | rw [if_pos (by omega)] | rw [if_neg (by omega)] | rw [if_pos trivial]
  have hZ2 : w.heap.size + 2 ≤ w2.heap.size := by rw [← hw2]; simp; omega
  have HG := Lib.hid hG
  clear hG hw2 HK
  obtain ⟨b1, hb1⟩ : ∃ b, b = w1.heap.size := ⟨_, rfl⟩
  rw [← hb1] at HG ⊢
  clear hb1 hZ
  gi_wp2_with (gi_at_call 35; refine (inW (safe_any _ _ _)).mono ?_; rintro e w' ⟨rfl, rfl⟩)
  refine range_outer0S (σ := Unit) [] rfl enters50 (by simp) rfl (fun _ => undef) (fun _ => undef) (fun _ _ => False) (fun _ _ => False) (fun _ _ _ => False) (NoneGoing w b1 (b1 + 1)) (NoneGoing w b1 (b1 + 1))
    (abide_false _) (abide_false _) (fun _ => abide_false _) ?c1 ?c2 HG.out ?give ?body ?done ?stop
  case c1 => exact fun A C h hc => ⟨h.1.calm hc (by omega), boxed_calm h.2.1 hc, boxed_calm h.2.2 hc⟩
  case c2 => exact fun A C h hc => ⟨h.1.calm hc (by omega), boxed_calm h.2.1 hc, boxed_calm h.2.2 hc⟩
  case give =>
    intro l rc Jx W1 X1 _ _ _ _ _ _ hst hrc
    refine (netAll_no none 0 2 (.inr rfl) b1 (b1 + 1) undef W1 hst.2.1.cell hst.2.2.cell (way_nil 0 W1) l).mono ?_
    rintro e W' ⟨hv, rfl⟩
    exact ⟨hv, .inl ⟨hst, hrc⟩⟩
  case body => exact fun l s W _ _ h => h.elim
  case stop => exact fun D c s W _ h _ => h.elim
  case done =>
    intro D w3 hD hG3 hDd
    have HK := Lib.hid hG3.1
    have HD := Lib.hid hDd
    clear hG3 hDd HG
    gi_wp2_with fail
    refine (inW (double_no none 9 9 2 (.inr (.inl rfl)) w3 (NoWay.at (.inr rfl) (way_nil 9 w3) 9))).mono ?_
    rintro e w' ⟨rfl, rfl⟩
    gi_wp2_with fail
    refine (inW (flip_no (some ⟨w.heap.size + 1, 0, none⟩) 0 0 0 2 (.inr (.inl rfl)) w3 ((HK.out.zero 0).at (.inr rfl) 0))).mono ?_
    rintro e w' ⟨rfl, rfl⟩
    gi_wp2_with fail
    refine (inW (waits_none (.pointer none) 0 2 (.inr rfl) w3 (way_nil 0 w3))).mono ?_
    rintro e w' ⟨rfl, rfl⟩
    gi_wp2_with fail
    refine (inW (new_L w3)).mono ?_
    rintro e w4 ⟨bn, rfl, hN, hs⟩
    obtain ⟨B, hB⟩ : ∃ B, B = w3.heap.size := ⟨_, rfl⟩
    have hwB : w.heap.size + 2 ≤ B := by rw [hB]; have := heap_lt HK.out.2.1; omega
    have hDB : D < B := by rw [hB]; exact heap_lt HD.out
    obtain ⟨l0, hl, hN⟩ : ∃ l0 : Nat → List (List Value), (l0 0 = [] ∧ l0 1 = []) ∧ NetL w3.heap.size w4 bn l0 := ⟨_, ⟨rfl, rfl⟩, hN⟩
    rw [← hB] at hN
    have HN := Lib.hid hN
    have HL := Lib.hid hl
    have HS := Lib.hid (StepB.of (B := B) hs)
    have HB := Lib.hid hB
    clear hN hs hl hB
    gi_wp2_with fail
    refine (inW (send_no (some ⟨bn, 0, none⟩) none 0 0 2 1 (.inl rfl) w4 (noWay_bad B bn 2 (.inr (by omega)) l0 w4 HN.out))).mono ?_
    rintro e w' ⟨rfl, rfl⟩
    obtain ⟨C1, hC1, hmk1⟩ := make_bytes 601 601 rfl (by omega)
    obtain ⟨C2, hC2, hmk2⟩ := make_bytes 600 600 rfl (by omega)
    have HC2 := Lib.hid hC2
    clear hC1 hC2
    gi_wp2_with fail
    obtain ⟨w5, hw5⟩ : ∃ w5, w5 = w4.alloc (.cells C1 5) := ⟨_, rfl⟩
    rw [← hw5]
    replace HN := Lib.hid (HN.out.same (show Step [] w4 w5 by rw [hw5]; exact Step.alloc _ _))
    replace HS := Lib.hid (HS.out.trans (StepB.of (show Step [] w4 w5 by rw [hw5]; exact Step.alloc _ _)))
    have hsz5 : w4.heap.size < w5.heap.size := by rw [hw5]; simp
    clear hw5 hmk1
    have hnet : ∃ r0 r1, NetObj w5 bn r0 r1 := by obtain ⟨r, e, h⟩ := HN.out; exact ⟨_, _, h.xo⟩
    obtain ⟨r0, r1, hno⟩ := hnet
    have HNO := Lib.hid hno
    clear hno
    refine (inW (send_long bn 0 r0 r1 (by omega) _ 601 601 (by omega) w5 HNO.out)).mono ?_
    rintro e w' ⟨rfl, rfl⟩
    clear HNO
    gi_wp2_with fail
    refine (inW (deliver_no (some ⟨bn, 0, none⟩) (-1) 0 1 (.inl rfl) w5 (NoWay.at (.inl rfl) (noWay_bad B bn (-1) (.inl (by omega)) l0 w5 HN.out) 0))).mono ?_
    rintro e w' ⟨rfl, rfl⟩
    gi_wp2_with fail
    refine (inW (deliver_no (some ⟨bn, 0, none⟩) 1 0 6 (.inr (.inr rfl)) w5 (noAt_out B bn 1 (by omega) 0 l0 (.inr (by rw [HL.out.2]; simp)) w5 HN.out))).mono ?_
    rintro e w' ⟨rfl, rfl⟩
    have HI0 := Lib.hid (show Sending B bn 0 w3 w5 from ⟨⟨l0, HL.out.1, HL.out.2, HN.out⟩, HS.out⟩)
    clear HN HS HL
    gi_wp2_with fail
    gi_loopw [83] (fun i wr => ∃ k : Nat, k ≤ 64 ∧ i = .int .i64 (k : Int) ∧ Hid (Sending B bn k w3 wr)) (fun i wr => 64 - (intOf i).toNat)
    case atStart => exact ⟨0, by omega, rfl, HI0⟩
    case round =>
      obtain ⟨k, hk, rfl, hI⟩ := hrel
      clear HI0
      by_cases hlt : k < 64
      · have t1 : (k : Int) < 64 := by omega
        obtain ⟨⟨l, hl0, hl1, hN⟩, hS⟩ := hI.out
        have HN := Lib.hid hN
        have HL := Lib.hid (And.intro hl0 hl1)
        have HS := Lib.hid hS
        have HLT := Lib.hid hlt
        clear hl0 hl1 hN hS hI hlt
        gi_wp2_with fail
        refine (inW (send_L B bn 0 (by omega) l (.slice (some ⟨wr.heap.size, 0, none⟩) 1 1) (u8s [k]) (u8s_one _) (by simp [u8s]) (by rw [HL.out.1, sentUp_length]; exact HLT.out) _ (HN.out.same (Step.alloc _ _)) (reads_new _ _ _))).mono ?_
        rintro e w6 ⟨rfl, hN, hs, hby⟩
        have HI := Lib.hid (show Sending B bn (k + 1) w3 w6 from ⟨⟨_, by rw [upd_same, HL.out.1, sentUp_succ], by rw [upd_other _ _ (by omega)]; exact HL.out.2, hN⟩, HS.out.trans ((StepB.of (Step.alloc _ _)).trans hs)⟩)
        have hk2 : k + 1 ≤ 64 := HLT.out
        clear hN hs hby HN HL HS HLT
        gi_wp2
        go_roundw
        case rel => exact ⟨k + 1, hk2, by go_num, HI⟩
        case measure => simp [intOf]; omega
      · obtain rfl : k = 64 := by omega
        obtain ⟨⟨l, hl0, hl1, hN⟩, hS⟩ := hI.out
        have HN := Lib.hid hN
        have HL := Lib.hid (And.intro hl0 hl1)
        have HS := Lib.hid hS
        obtain ⟨w6, hw6⟩ : ∃ w6, w6 = wr := ⟨_, rfl⟩
        rw [← hw6] at HN HS ⊢
        clear hl0 hl1 hN hS hI hlt hw6
        gi_wp2_with fail
        refine (inW (sendFull_L B bn 0 (by omega) l _ (u8s (List.replicate 600 0)) (u8s_one _) (by rw [u8s_length]; simp) (by rw [HL.out.1, sentUp_length]; exact Nat.le_refl _) (by rw [HL.out.1, sentUp_length]; omega) _ (HN.out.same (Step.alloc _ _)) (reads_made _ _ _ _ HC2.out (by omega)) (v5_new _ _ _ _ _))).mono ?_
        rintro e w7 ⟨rfl, hN, hs, hby⟩
        obtain ⟨l1, h1, hN2⟩ : ∃ l1 : Nat → List (List Value), (l1 0 = (sentUp 64).eraseIdx 0 ++ [u8s (List.replicate 600 0)] ∧ l1 1 = []) ∧ NetL B w7 bn l1 := ⟨_, ⟨by rw [upd_same, HL.out.1], by rw [upd_other _ _ (by omega)]; exact HL.out.2⟩, hN⟩
        replace HN := Lib.hid hN2
        have HL1 := Lib.hid h1
        replace HS := Lib.hid (HS.out.trans ((StepB.of (Step.alloc _ _)).trans hs))
        clear hN hN2 hs hby h1 HL HC2 hmk2
        gi_wp2_with fail
        refine (inW (doubleFull_L B bn 0 0 (by omega) l1 (by rw [HL1.out.1]; simp) (by rw [HL1.out.1]; simp [sentUp]) w7 HN.out)).mono ?_
        rintro e w' ⟨rfl, rfl⟩
        gi_wp2_with fail
        refine (inW (deliver_L B bn 0 0 (by omega) l1 (by rw [HL1.out.1]; simp) (by rw [HL1.out.1]; simp [sentUp]) w7 HN.out)).mono ?_
        rintro e w8 ⟨qa, na, ca, cc, hcc, rfl, ho, hN, hs, hby⟩
        rw [HL1.out.1] at hcc
        obtain rfl : u8s [1] = cc := by
          rw [List.getElem?_append_left (by simp [sentUp])] at hcc
          simpa [sentUp] using hcc
        obtain ⟨l2, h1, hN2⟩ : ∃ l2 : Nat → List (List Value), (l2 0 = ((sentUp 64).eraseIdx 0 ++ [u8s (List.replicate 600 0)]).eraseIdx 0 ∧ l2 1 = []) ∧ NetL B w8 bn l2 := ⟨_, ⟨by rw [upd_same, HL1.out.1], by rw [upd_other _ _ (by omega)]; exact HL1.out.2⟩, hN⟩
        replace HN := Lib.hid hN2
        have HL2 := Lib.hid h1
        replace HS := Lib.hid (HS.out.trans hs)
        have HO := Lib.hid ho
        clear hN hN2 hs hby h1 HL1 hcc ho
        gi_wp2_with fail
        refine (inW (netAll_any (some ⟨bn, 0, none⟩) 0 _)).mono ?_
        rintro e w9 ⟨rfl, hw9⟩
        obtain ⟨r, e, hNA⟩ := HN.out
        obtain ⟨bs, hbs⟩ : ∃ b, b = w8.heap.size := ⟨_, rfl⟩
        have hs9 : Step [] w8 w9 := by rw [← hw9]; exact ((Step.alloc _ _).trans (Step.alloc _ _)).trans (Step.alloc _ _)
        have hz9 : w9.heap.size = bs + 3 := by rw [← hw9, hbs]; simp
        have hG0 : Seen w9 B bs (bs + 1) bn r e l2 (.slice qa na ca) 0 w9 := by
          refine ⟨?_, hNA.same hs9, HO.out.same hs9, Step.refl _ _, ?_, ?_⟩
          · rw [← hw9, hbs]; simp only [Boxed, heap_alloc_get, World.size_alloc]; repeat first | rfl | rw [if_pos (by omega)] | rw [if_neg (by omega)] | rw [if_pos trivial]
          · rw [← hw9, hbs]; simp only [Boxed, heap_alloc_get, World.size_alloc]; repeat first | rfl | rw [if_pos (by omega)] | rw [if_neg (by omega)] | rw [if_pos trivial]
          · rw [← hw9, hbs]; simp only [Boxed, heap_alloc_get, World.size_alloc]; repeat first | rfl | rw [if_pos (by omega)] | rw [if_neg (by omega)] | rw [if_pos trivial]
        have hBbs : B ≤ bs := by rw [hbs]; exact hNA.size
        rw [World.size_alloc, ← hbs]
        have HG := Lib.hid hG0
        have HG0 := Lib.hid hG0.1
        have HS9 := Lib.hid (HS.out.trans (StepB.of hs9))
        have HHB := Lib.hid hbs
        clear hw9 hs9 hG0 hNA HN HS HO hbs
        gi_wp2_with (gi_at_call 35; refine (inW (safe_any _ _ _)).mono ?_; rintro e w' ⟨rfl, rfl⟩)
        have h63 : (l2 0).length = 63 := by rw [HL2.out.1]; simp [sentUp]
        have hall : ∀ (j : Nat) c, (l2 0)[j]? = some c → (∀ u ∈ c, u.oneCell' = true) ∧ c.length < 1000000 := by
          intro j c hc
          rw [HL2.out.1] at hc
          have hm := List.mem_of_getElem? hc
          have hm2 := (List.eraseIdx_subset (l := (sentUp 64).eraseIdx 0 ++ [u8s (List.replicate 600 0)])) hm
          rcases List.mem_append.1 hm2 with h | h
          · have h3 := (List.eraseIdx_subset (l := sentUp 64)) h
            obtain ⟨x, _, rfl⟩ := List.mem_map.1 h3
            exact ⟨u8s_one _, by simp [u8s]⟩
          · simp at h
            subst h
            exact ⟨u8s_one _, by simp [u8s]⟩
        have H63 := Lib.hid h63
        have HALL := Lib.hid hall
        clear h63 hall
        have hIc : ∀ k A C, (k ≤ 4 ∧ Seen w9 B bs (bs + 1) bn r e l2 (.slice qa na ca) k A) → Calm w9.heap.size A C → (k ≤ 4 ∧ Seen w9 B bs (bs + 1) bn r e l2 (.slice qa na ca) k C) := fun k A C h hc => ⟨h.1, h.2.calm hc (Nat.le_refl _)⟩
        refine range_outer0S (σ := Nat × Value × Value) [] rfl enters50 (by simp) rfl (fun s => .int .i64 (s.1 : Int)) (fun s => s.2.1)
          (AllMid w9.heap.size 0 e l2 (fun k W => k ≤ 4 ∧ Seen w9 B bs (bs + 1) bn r e l2 (.slice qa na ca) k W)) (AllPn w9.heap.size 0 e (fun k W => k ≤ 4 ∧ Seen w9 B bs (bs + 1) bn r e l2 (.slice qa na ca) k W))
          (fun c _ W => c = .exit 4 ∧ Seen w9 B bs (bs + 1) bn r e l2 (.slice qa na ca) 5 W)
          (fun W => 0 ≤ 4 ∧ Seen w9 B bs (bs + 1) bn r e l2 (.slice qa na ca) 0 W) (fun W => (l2 0).length ≤ 4 ∧ Seen w9 B bs (bs + 1) bn r e l2 (.slice qa na ca) (l2 0).length W)
          (allMid_abide hIc) (allPn_abide hIc) (fun c s A C h hc => ⟨h.1, h.2.calm hc (Nat.le_refl _)⟩) (fun A C h hc => ⟨h.1, h.2.calm hc (Nat.le_refl _)⟩) (fun A C h hc => ⟨h.1, h.2.calm hc (Nat.le_refl _)⟩) ⟨by omega, HG.out⟩
          (fun l rc Jx W1 X1 hsz hX hrc hrb hJx hY h0 hr0 => netAll_gives B w9.heap.size bn 0 (bs + 1) (bs + 1 + 1) (by omega) r e l2 HALL.out (by rw [H63.out]; omega) (fun k W => k ≤ 4 ∧ Seen w9 B bs (bs + 1) bn r e l2 (.slice qa na ca) k W) hIc (fun k W h => ⟨h.2.2.2.2.2.1.cell, h.2.2.2.2.2.2.cell, h.2.2.1⟩) l rc Jx W1 X1 hsz hX hrc hrb hJx hY h0 hr0) ?body2 ?done2 ?stop2
        case done2 => exact fun D W _ h _ => absurd h.1 (by rw [H63.out]; omega)
        case body2 =>
          rintro lr ⟨k, vk, row⟩ W hl _ ⟨hk, ⟨hk4, hS⟩, hrow, _⟩
          have hk4' : k ≤ 4 := hk4
          have hS' : Seen w9 B bs (bs + 1) bn r e l2 (.slice qa na ca) k W := hS
          have hrow' : OwnAt w9.heap.size W 68 row (List.map encS (e 0)) := hrow
          obtain ⟨hnx, hbk, hro⟩ := hS'.next (by omega) (by omega)
          have HP := Lib.hid (And.intro hnx (And.intro hbk (hro _ _ _ hrow')))
          have c0 := hS'.1.cell
          have f0 := hS'.1.frozen
          clear hk hk4 hS hrow hS' hrow' hnx hbk hro hIc hz9
          simp [frame0]
          by_cases h4 : k = 4
          · subst h4
            gi_wp2
            exact ⟨HP.out.2.1, rfl, HP.out.1⟩
          · have hne : ((k : Int) + 1 == 5) = false := by simp; omega
            have HK4 := Lib.hid (show k + 1 ≤ 4 by omega)
            clear h4
            gi_wp2
            exact ⟨HP.out.2.1, ⟨HK4.out, HP.out.1⟩, HP.out.2.2⟩
        case stop2 =>
          rintro D2 c s w10 hD2 ⟨rfl, hS5⟩ hDd2
          have HDD := Lib.hid (And.intro hDd2 hD2)
          have HS5 := Lib.hid hS5
          have HN := Lib.hid (show NetL B w10 bn l2 from ⟨_, _, hS5.2.1⟩)
          have hx0 : (l2 0)[0]? = some (u8s [2]) := by
            rw [HL2.out.1]
            simp [sentUp]
          have HX0 := Lib.hid hx0
          clear hDd2 hD2 hS5 hIc HG hx0
          gi_wp2_with fail
          refine (inW (send_L B bn 1 (by omega) l2 (.slice none 0 0) [] (by simp) (by simp) (by rw [HL2.out.2]; simp) _ HN.out (reads_nil _))).mono ?_
          rintro e1 w11 ⟨rfl, hN, hs, hby⟩
          obtain ⟨l3, h1, hN2⟩ : ∃ l3 : Nat → List (List Value), (l3 0 = l2 0 ∧ l3 1 = [[]]) ∧ NetL B w11 bn l3 := ⟨_, ⟨by rw [upd_other _ _ (by omega)], by rw [upd_same, HL2.out.2]; rfl⟩, hN⟩
          replace HN := Lib.hid hN2
          have HL3 := Lib.hid h1
          have hs5 : Boxed w11 bs 3 (.int .i64 5) := hs.keep (show w10.heap[bs]? = some (.cells #[.int .i64 5] 3) from HS5.out.1) rfl
          obtain ⟨g, off, cap, hv, _, hcm, hcell⟩ := (hby _ _ HS5.out.2.2.1).at (j := 0) (x := .int .u8 1) rfl
          rw [Nat.add_zero] at hcell
          have c0 := hs5.cell
          injection hv with e1 e2 e3
          obtain rfl : na = 1 := e2
          have hca : 1 ≤ ca := by have := HS5.out.2.2.1.form; obtain ⟨q', cap', hv', h5, _⟩ := this; injection hv' with a1 a2 a3; rw [a3]; exact h5
          have hcam : ca ≤ 9223372036854775807 := by unfold maxLen at hcm; omega
          subst e1
          have HST := Lib.hid (And.intro HS5.out.2.2.2.1 hs)
          have HX1 := Lib.hid (show (l3 0)[0]? = some (u8s [2]) by rw [HL3.out.1]; exact HX0.out)
          have hw3 := waits_L B bn 0 (by omega) l3 w11 HN.out
          rw [HL3.out.1, H63.out] at hw3
          have HW := Lib.hid hw3
          clear hN hN2 hs hby h1 hs5 e3 hcm hw3 HX0 hz9
          gi_wp2_with fail
          refine (inW (flip_out B bn 1 0 0 (by omega) l3 [] (by rw [HL3.out.2]; rfl) (.inr (by simp)) (by omega) (by simp) (by rw [HL3.out.2]; simp) w11 HN.out)).mono ?_
          rintro e1 w' ⟨rfl, rfl⟩
          gi_wp2_with fail
          refine (inW (flip_out B bn 0 0 8 (by omega) l3 (u8s [2]) HX1.out (.inr (by simp [u8s])) (by omega) (by simp [u8s]) (by rw [HL3.out.1, H63.out]; omega) w11 HN.out)).mono ?_
          rintro e1 w' ⟨rfl, rfl⟩
          gi_wp2_with fail
          refine (inW (flip_out B bn 0 0 (-1) (by omega) l3 (u8s [2]) HX1.out (.inl (by omega)) (by omega) (by simp [u8s]) (by rw [HL3.out.1, H63.out]; omega) w11 HN.out)).mono ?_
          rintro e1 w' ⟨rfl, rfl⟩
          gi_wp2_with fail
          refine (inW HW.out).mono ?_
          rintro e1 w' ⟨rfl, rfl⟩
          gi_wp2_with fail
          refine (inW (netWakes_any w11)).mono ?_
          rintro e1 w12 ⟨rfl, hs⟩
          have hB3 : w3.heap.size ≤ B := by rw [HB.out]; exact Nat.le_refl _
          have sA : Step [] w3 w9 := StepB.after hB3 (Step.refl _ _) HS9.out
          have sB : Step [] w3 w10 := Step.after (by omega) sA HST.out.1
          have sC : Step [] w3 w12 := (StepB.after hB3 sB HST.out.2).trans hs
          have hKB := HK.out.same sC
          have c1 := hKB.1.cell
          have f1 := hKB.1.frozen
          have hst : Step [w.heap.size] w12 (w12.setCell ⟨w.heap.size, 0, none⟩ (.bool true)) := Step.setObj hKB.1 rfl (by simp) _ _
          have hres := hKB.1.set (.bool true)
          have hd1 : (w12.setCell ⟨w.heap.size, 0, none⟩ (.bool true)).heap[D]? = some (.deferred (some [])) := obj_step (obj_step HD.out sC (by simp)) hst (by simp; omega)
          have hd2 : (w12.setCell ⟨w.heap.size, 0, none⟩ (.bool true)).heap[D2]? = some (.deferred (some [])) := by
            have h2 : w11.heap[D2]? = some (.deferred (some [])) := HST.out.2.keep HDD.out.1 rfl
            have h9 := HDD.out.2
            have hz := heap_lt (show w9.heap[bs]? = some _ from HG0.out)
            exact obj_step (obj_step h2 hs (by simp)) hst (by simp; omega)
          have HF := Lib.hid (show Step [] w (w12.setCell ⟨w.heap.size, 0, none⟩ (.bool true)) from Step.after (Nat.le_refl _) hKB.2.2 hst)
          have hne : D2 ≠ D := by
            have hz := heap_lt (show w9.heap[bs]? = some _ from HG0.out)
            have := HDD.out.2
            omega
          have hbd : w.heap.size ≤ D ∧ w.heap.size ≤ D2 := by
            have hz := heap_lt (show w9.heap[bs]? = some _ from HG0.out)
            have := HDD.out.2
            omega
          have HDS := Lib.hid (And.intro (And.intro hd1 (And.intro hd2 hres)) (And.intro hne hbd))
          clear hs sA sB sC hKB hst hd1 hd2 hres hne hbd hB3
          gi_wp2_with fail
          refine leaves_marksC (B := w.heap.size) [D2, D] _ (fun w' hc => results_cell4 rfl _ w' w.heap.size true rfl (boxed_calm HDS.out.1.2.2 hc).cell) ?_ ?_ (fun w' hc => ⟨rfl, HF.out.calm hc (Nat.le_refl _)⟩)
          · intro X hX
            simp at hX
            rcases hX with rfl | rfl
            · exact ⟨HDS.out.2.2.2, HDS.out.1.2.1⟩
            · exact ⟨HDS.out.2.2.1, HDS.out.1.1⟩
          · simpa using HDS.out.2.1
end Go.Proofs.Ytnomnhlfenhjdaa
