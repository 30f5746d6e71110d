/- WindowKeeps: its walk. No statement is proved here; nothing is assumed. -/
import Derived.Test.YtbainekfbonbjaaWinU
namespace Go.Proofs.Ytbainekfbonbjaa
open Go.RowKit Go.Shelf
set_option linter.unusedVariables false
set_option linter.unusedSimpArgs false

theorem ackG_all {u : Nat} {g : Kept6} (h : ∀ k x, g k = some x → k < u) : ackG u 0 g = fun _ => none := by
  funext k
  unfold ackG
  split
  · rfl
  · cases e : g k with
    | none => rfl
    | some x => have := h k x e; omega
theorem keysG_none (u : Nat) : keysG (fun _ => none) u = [] := by
  unfold keysG
  rw [List.filter_eq_nil_iff]
  simp
theorem dueL_none (now u : Nat) : dueL now (fun _ => none) u = [] := by
  unfold dueL
  rw [keysG_none]
  rfl
theorem dueOf_all {now : Nat} {g : Kept6} (h : ∀ k x, g k = some x → x.2.2 ≤ now) : ∀ l : List Nat, (∀ k ∈ l, (g k).isSome = true) → (dueOf now g l).map (·.1) = l := by
  intro l
  induction l with
  | nil => intro _; rfl
  | cons k t ih =>
    intro hl
    have hk := hl k (by simp)
    cases e : g k with
    | none => rw [e] at hk; cases hk
    | some x =>
      have hd : dueOne now g k = some (k, x.1, x.2.1 + 1) := by unfold dueOne; rw [e]; simp [h k x e]
      unfold dueOf at ih ⊢
      rw [List.filterMap_cons, hd]
      simp only [List.map_cons]
      rw [ih (fun j hj => hl j (by simp [hj]))]
theorem dueL_all {now u : Nat} {g : Kept6} (h : ∀ k x, g k = some x → x.2.2 ≤ now) : (dueL now g u).map (·.1) = keysG g u :=
  dueOf_all h _ fun k hk => (mem_keysG.1 hk).2
theorem keysG_due (a z now u : Nat) (g : Kept6) : keysG (dueG a z now g) u = keysG g u :=
  keysG_congr fun k => by unfold dueG; cases g k <;> rfl
section
variable {w W W' : World} {b sp bm kb u lim nw c : Nat} {M Mk : Ents} {g : Kept6}
theorem KpAt.row {S : List Nat} (h : KpAt w b sp bm kb u lim nw c M Mk g W) (hs : Step S W W') (hS : ∀ i ∈ S, w.heap.size ≤ i ∧ ∃ cur, W.heap[i]? = some (.cells cur 22 (0, 0))) : KpAt w b sp bm kb u lim nw c M Mk g W' := by
  refine ⟨h.win.step hs (fun i hi => ?_), h.m.keep hs (fun hi => ?_), h.k, h.lo, h.ne, h.st.trans' hs (fun _ h _ => h) (fun i hi hl => by have := (hS i hi).1; omega), h.n, h.at_⟩
  · obtain ⟨_, cur, hc⟩ := hS i hi
    refine ⟨fun e => ?_, fun e => ?_, fun e => ?_, fun cur' hc' => ?_⟩
    · have := h.win.o; rw [← e, hc] at this; unfold winObj at this; cases this
    · have : W.heap[sp]? = some (spaceObj 92 u lim) := h.win.s
      rw [← e, hc] at this; unfold spaceObj at this; cases this
    · obtain ⟨es', c', hb'⟩ := h.win.m.block
      rw [← e, hc] at hb'; cases hb'
    · rw [hc] at hc'; cases hc'
  · obtain ⟨_, cur, hc⟩ := hS _ hi
    obtain ⟨es', c', hb'⟩ := h.m.block
    rw [hc] at hb'; cases hb'
/-- Due, when all are due. -/
theorem KpAt.allDue {now : Int} {nc : Nat} (h : KpAt w b sp bm kb u lim nw c M Mk g W) (hc : c ≤ 1000) (hn : now = (nc : Int)) (hnw : nc = nw + 41) (hb : nw ≤ 100000) :
    Calls Try.prog 49 #[.pointer (some ⟨b, 0, none⟩), .int .i64 now] W fun e w' => ∃ q cc D M', e = .returned (.slice q M.length cc) ∧ M.length ≤ cc ∧ cc ≤ maxLen ∧ OutAt W.heap.size w' (.slice q M.length cc) D ∧ D.map (·.1) = keysG g u ∧ D.length = M.length ∧
      KpAt w b sp bm kb u lim nc (c + 1) M' Mk (dueG 3 40 nc g) w' ∧ M'.length = M.length := by
  subst hn
  refine (due6_any pdqAt255 (by omega) w.heap.size b sp bm u lim 3 40 M g W h.win h.st.size (by have := h.n; omega) (fun k x hx => by have := (h.at_ k x hx).2; omega) (nc : Int) nc (by omega)).mono ?_
  rintro e w' ⟨v, M', rfl, g1, g2, g3, g4⟩
  have h0 : ∀ k x, g k = some x → x.2.2 ≤ nc := fun k x hx => by have := (h.at_ k x hx).1; omega
  have hm := dueL_all (u := u) h0
  have hl : (dueL nc g u).length = M.length := by
    have := congrArg List.length hm
    rw [List.length_map] at this
    rw [this, ← h.win.len]
  obtain ⟨q, cc, rfl, e1, e2⟩ := g1.form
  rw [hl] at e1 g1 ⊢
  exact ⟨q, cc, _, M', rfl, e1, e2, g1, hm, hl, (h.later (by omega)).due g2 g3 g4, g3⟩
/-- Ack(next, 0) takes all. -/
theorem KpAt.last (h : KpAt w b sp bm kb u lim nw c M Mk g W) {m : Nat} (hm : M.length = m) :
    Calls Try.prog 51 #[.pointer (some ⟨b, 0, none⟩), .int .u32 (u : Int), .int .u32 0] W fun e w' => e = .returned (.int .i64 (m : Int)) ∧ WinM w.heap.size w' b sp bm u lim 3 40 [] (fun _ => none) ∧ Step [] w w' := by
  refine (ack6_any h.win (by have := h.n; omega) u 0 (Nat.le_refl _) (by omega)).mono ?_
  rintro e w' ⟨M', rfl, g1, g2, g3⟩
  rw [ackG_all h.win.kb] at g1
  have hl := g1.len
  rw [keysG_none] at hl
  obtain rfl : M' = [] := List.eq_nil_of_length_eq_zero hl
  refine ⟨by congr 2; simp; omega, g1, low6 h.st g3 h.win.lo.2.2⟩
theorem win_late (hs : Step [] w W) (h : WinM w.heap.size W b sp bm u lim 3 40 [] (fun _ => none)) :
    Calls Try.prog 49 #[.pointer (some ⟨b, 0, none⟩), .int .i64 1099511627776] W fun e w' => ∃ q cc, e = .returned (.slice q 0 cc) ∧ Step [] w w' := by
  refine (due6_any pdqAt255 (by omega) w.heap.size b sp bm u lim 3 40 [] _ W h hs.size (by simp) (fun k x hx => by cases hx) 1099511627776 1099511627776 (by omega)).mono ?_
  rintro e w' ⟨v, M', rfl, g1, g2, g3, g4⟩
  rw [dueL_none] at g1
  obtain ⟨q, cc, rfl, _, _⟩ := g1.form
  exact ⟨q, cc, rfl, low6 hs g4 h.lo.2.2⟩
end
/-- What the rounds that gather the numbers keep. -/
structure EnAt (w : World) (b sp bm kb u lim nw c B8 B9 : Nat) (M Mk : Ents) (g : Kept6) (q9 : Option Addr) (n9 c9 : Nat) (D : List Out6) (ks : List Nat) (j : Nat) (v : Value) (W : World) : Prop where
  kp : KpAt w b sp bm kb u lim nw c M Mk g W
  out : OutAt B8 W (.slice q9 n9 c9) D
  row : W.ownsRow B9 22 1 v j (n32 (ks.take j))
  b9 : w.heap.size ≤ B9 ∧ B9 ≤ W.heap.size
section
variable {w W W2 w' : World} {b sp bm kb u lim nw c B8 B9 : Nat} {M Mk : Ents} {g : Kept6} {q9 : Option Addr} {n9 c9 : Nat} {D : List Out6} {ks : List Nat} {j k : Nat} {v v' : Value}
theorem EnAt.next (h : EnAt w b sp bm kb u lim nw c B8 B9 M Mk g q9 n9 c9 D ks j v W) (hs2 : Step [] W W2) (hk : ks[j]? = some k) (hg : W2.grownBy w' v.ownBlock) (ho : w'.ownsRow B9 22 1 v' (j + 1) (n32 (ks.take j) ++ [.int .u32 (k : Int)])) :
    EnAt w b sp bm kb u lim nw c B8 B9 M Mk g q9 n9 c9 D ks (j + 1) v' w' := by
  have hrow2 : W2.ownsRow B9 22 1 v j (n32 (ks.take j)) := row_step h.row hs2 (by simp)
  have hty := row_type hrow2
  have hs3 : Step v.ownBlock.toList W2 w' := Step.grown hg (fun i hi => by
    obtain ⟨_, cur, hc⟩ := hty i (by simp [hi])
    exact ⟨.inl (by simp [hi]), fun ob hob => by rw [hc] at hob; cases hob; rfl⟩)
  refine ⟨(h.kp.same hs2).row hs3 (fun i hi => ?_), (h.out.same hs2).step hs3 (fun i hi => ?_), ?_, h.b9.1, ?_⟩
  · obtain ⟨h1, cur, hc⟩ := hty i hi
    refine ⟨?_, cur, hc⟩
    have := h.b9.1
    omega
  · obtain ⟨_, cur, hc⟩ := hty i hi
    exact ⟨fun cur' hc' => (by rw [hc] at hc'; cases hc'), fun cur' hc' => (by rw [hc] at hc'; cases hc')⟩
  · rw [take_snoc hk, n32_snoc]
    exact ho
  · have := hs2.size; have := hs3.size; have := h.b9.2; omega
end
end Go.Proofs.Ytbainekfbonbjaa
namespace Go.Proofs.Ytbainekfbonbjaa
open Go.RowKit Go.Shelf
set_option linter.unusedVariables false
set_option linter.unusedSimpArgs false
attribute [local go_sem] Oper.semAt_some

theorem RowOf.same6 {w W : World} {q : Option Addr} {n k : Nat} {V : Nat → Nat → Value} (h : RowOf w q n k V) (hs : Step [] w W) : RowOf W q n k V := by
  rcases h with h | ⟨b, off, h1, h2⟩
  · exact .inl h
  · exact .inr ⟨b, off, h1, fun i hi j hj => step_cell hs (h2 i hi j hj)⟩
theorem KeptA.low {B B' : Nat} {W : World} {v : Value} {k : Nat} {V : Nat → Nat → Value} (h : KeptA B W v k V) (hB : B' ≤ B) : KeptA B' W v k V := by
  obtain ⟨xs, ⟨hl, ho⟩, hx⟩ := h
  refine ⟨xs, ⟨hl, ?_⟩, hx⟩
  rcases ho with ho | ⟨g, cap, cur, h1, h2, h3, h4⟩
  · exact .inl ho
  · exact .inr ⟨g, cap, cur, h1, by omega, h3, h4⟩
set_option maxRecDepth 100000 in
set_option maxHeartbeats 16000000 in
theorem keeps_walk (q : Option Addr) (N cap y : Nat) (hN : N ≤ cap) (hcap : cap ≤ maxLen) (V : Nat → Nat → Value) (hy : y < 256) (w : World) (hrow : RowOf w q N 5 V)
    (hV : ∀ i, i < N → ∃ a q n cap xs t k m, ActIs w (V i) a q n cap xs t k m) :
    Calls Try.prog 16 #[.slice q N cap, .int .u8 (y : Int)] w fun e w' => e = .returned (.bool true) ∧ Step [] w w' := by
  have HV := Lib.hid hV
  have HR := Lib.hid hrow
  have HC := Lib.hid (And.intro hN hcap)
  obtain ⟨y1, hy1⟩ : ∃ y1, y1 = y % 50 := ⟨_, rfl⟩
  have d1 : (y : Int) % 50 = (y1 : Int) := by omega
  have d2 : (y : Int).tmod 50 = (y1 : Int) := by rw [Int.tmod_eq_emod_of_nonneg (by omega)]; exact d1
  have c1 : (y1 : Int) < 50 := by omega
  have hNm : (N : Int) ≤ 9223372036854775807 := by unfold maxLen at hcap; omega
  clear hV hrow hN hcap hy hy1
  have hmm := @run_makeMap Try.prog
  go_enter Try.func16, Try.ntmps16
  go_wp2_with fail
  obtain ⟨lim, hlim⟩ : ∃ lim : Nat, lim = 1 + y1 := ⟨_, rfl⟩
  have hl50 : lim ≤ 50 := by omega
  rw [show ((1 : Int) + (y1 : Int)) = (lim : Int) by omega]
  refine (new6_ok lim 3 40 (by omega) (by omega) w).mono ?_
  rintro e w1 ⟨b, sp, bm, rfl, hW, hs⟩
  have H1 := Lib.hid (And.intro hW (And.intro hs (And.intro hlim hl50)))
  clear hW hs hlim hl50
  go_wp2_with fail
  clear hmm
  have hs1 : Step [] w1 (w1.alloc (.map #[] 0)) := Step.alloc _ _
  have hsw := H1.out.2.1.trans hs1
  have hF := few6_any 60 (by omega) q N cap HC.out.1 HC.out.2 V (w1.alloc (.map #[] 0)) (HR.out.same6 hsw) (fun i hi => by
    obtain ⟨a, q, n, cap, xs, t, k, m, r0, r1, r2, r3, r4, r5, r6, r7, r8, r9, r10, r11, r12, r13, r14⟩ := HV.out i hi
    exact ⟨a, q, n, cap, xs, t, k, m, r0, r1, r2, r3, r4, r5, r6, r7, r8, r9, r10, r11, r12, r13.same hsw, r14⟩)
  obtain ⟨m60, hm60⟩ : ∃ m, m = min N 60 := ⟨_, rfl⟩
  rw [← hm60] at hF
  refine hF.mono ?_
  clear hF
  rintro e w2 ⟨iv, rfl, hK, hs2⟩
  obtain ⟨qi, ci, rfl, hcl, hcm⟩ := hK.form
  obtain ⟨kb, hkb⟩ : ∃ kb, kb = w1.heap.size := ⟨_, rfl⟩
  have h0 : KpAt w b sp bm kb 0 lim 0 0 [] [] (fun _ => none) w2 :=
    ⟨(H1.out.1.same hs1).same hs2, by rw [hkb]; exact (MapV.made w1).keep hs2 (by simp), RepW.nil, by rw [hkb]; exact H1.out.2.1.size, by
      obtain ⟨es, c, hb⟩ := H1.out.1.m.block
      have := heap_lt hb
      omega, hsw.trans hs2, by simp, by simp⟩
  have hK0 := hK.low hsw.size
  have hci : (ci : Int) ≤ 9223372036854775807 := by unfold maxLen at hcm; omega
  have hmN : m60 ≤ N ∧ m60 ≤ 60 := by omega
  have H0 := Lib.hid (And.intro h0 hK0)
  have H60 := Lib.hid (And.intro hmN H1.out.2.2)
  rw [← hkb]
  clear h0 hK0 hK hs2 hsw hs1 hcm hkb hm60 hmN H1
  go_wp2_with fail
  go_loopw [8, 9, 44] (fun v8 v9 i wr => ∃ j u nw : Nat, j ≤ m60 ∧ i = .int .i64 (j : Int) ∧ v8 = .int .u32 (u : Int) ∧ v9 = .int .i64 (nw : Int) ∧ nw ≤ 63 * j ∧ u ≤ lim ∧ Hid (∃ M Mk g, KpAt w b sp bm kb u lim nw j M Mk g wr ∧ KeptA w.heap.size wr (.slice qi m60 ci) m60 V)) (fun _ _ i wr => m60 - (intOf i).toNat)
  case atStart => exact ⟨0, 0, 0, by omega, rfl, rfl, rfl, by omega, by omega, _, _, _, H0.out⟩
  case round =>
    clear H0
    obtain ⟨j, u, nw, hj, rfl, rfl, rfl, hnw, hul, hI⟩ := hrel
    by_cases hlt : j < m60
    · have hji : (j : Int) < (m60 : Int) := by omega
      obtain ⟨M, Mk, g, hKp, hKA⟩ := hI.out
      obtain ⟨a, q2, n2, c2, xs, t, ack, mask, hA⟩ := HV.out j (by have := H60.out.1; omega)
      obtain ⟨gi, cap', e1, z1, z2, x0, x1, x2, x3, x4⟩ := hKA.at hlt hA
      clear z1 z2
      injection e1 with e1 z1 e3
      clear z1
      subst e1
      subst e3
      obtain ⟨r0, r1, r2, r3, r4, r5, r6, r7, r8, r9, r10, r11, r12, r13, r14⟩ := hA
      obtain ⟨n3, hn3⟩ : ∃ n3, n3 = min n2 300 := ⟨_, rfl⟩
      rw [← hn3] at x1
      have hnc3 : n3 ≤ c2 := by omega
      have hcm2 : (c2 : Int) ≤ 9223372036854775807 := by unfold maxLen at r10; omega
      have HP := Lib.hid (And.intro hn3 (And.intro r11 (And.intro r12 (And.intro r13 (And.intro r14 (And.intro r10 (And.intro r9 (And.intro r7 r8))))))))
      obtain ⟨td, htd⟩ : ∃ td : Nat, (td : Int) = t % 64 := ⟨(t % 64).toNat, by omega⟩
      have e63 : bits .and .i64 t 63 = (td : Int) := by rw [and63, htd]
      have htd2 : td ≤ 63 := by omega
      have hw9 : IntKind.i64.wrap ((nw : Int) + (td : Int)) = (nw : Int) + (td : Int) := by have := H60.out.1; rw [IntKind.wrap_i64]; omega
      have HT := Lib.hid (And.intro hKp (And.intro hKA (And.intro htd2 (And.intro hnw hul))))
      clear hI hKp hKA hn3 r0 r1 r2 r3 r4 r5 r6 r7 r8 r9 r10 r11 r12 r13 r14 htd htd2 hnw hul
      go_upto_region 10 with fail
      -- MIDDLE
      obtain ⟨nw1, hnw1⟩ : ∃ nw1 : Nat, nw1 = nw + td := ⟨_, rfl⟩
      rw [show ((nw : Int) + (td : Int)) = (nw1 : Int) by omega]
      have o11 : (wr.alloc (.cells #[.int .i64 a, .slice q2 n3 c2, .int .i64 t, .int .u32 (ack : Int), .int .u32 (mask : Int)] 73)).heap[wr.heap.size]? = some (.cells #[.int .i64 a, .slice q2 n3 c2, .int .i64 t, .int .u32 (ack : Int), .int .u32 (mask : Int)] 73) := by rw [heap_alloc_get, if_pos rfl]
      have hsa : Step [] wr (wr.alloc (.cells #[.int .i64 a, .slice q2 n3 c2, .int .i64 t, .int .u32 (ack : Int), .int .u32 (mask : Int)] 73)) := Step.alloc _ _
      obtain ⟨b11, hb11⟩ : ∃ b11, b11 = wr.heap.size := ⟨_, rfl⟩
      obtain ⟨wa, hwa⟩ : ∃ wa, wa = wr.alloc (.cells #[.int .i64 a, .slice q2 n3 c2, .int .i64 t, .int .u32 (ack : Int), .int .u32 (mask : Int)] 73) := ⟨_, rfl⟩
      rw [← hb11, ← hwa] at o11
      rw [← hwa] at hsa
      rw [← hb11, ← hwa]
      have HW1 := Lib.hid hnw1
      have HKp := Lib.hid (show KpAt w b sp bm kb u lim nw1 j M Mk g wa from (HT.out.1.later (by omega)).same hsa)
      have HKa := Lib.hid (HT.out.2.1.same hsa)
      have HO := Lib.hid o11
      have y0 := cells_cell (i := 0) o11 rfl
      have y1' := cells_cell (i := 1) o11 rfl
      have y3 := cells_cell (i := 3) o11 rfl
      have y4 := cells_cell (i := 4) o11 rfl
      clear x0 x1 x2 x3 x4 e63 hw9 o11 hsa hb11 hwa hnw1
      have HS := Lib.hid (show SwAt w wa b sp bm kb lim nw1 u j gi m60 ci b11 n2 n3 c2 ack mask y y1 V q2 xs a t M Mk g from
        ⟨HKp.out, HKa.out, HO.out, ⟨HT.out.2.2.2.2, H60.out.2⟩, by have := HW1.out; have := HT.out.2.2.1; have := HT.out.2.2.2.1; have := H60.out.1; omega, ⟨d1, d2, c1⟩, HP.out.1, HP.out.2.1, HP.out.2.2.1, HP.out.2.2.2.1, HP.out.2.2.2.2.1, ⟨HP.out.2.2.2.2.2.2.1, HP.out.2.2.2.2.2.1⟩, HP.out.2.2.2.2.2.2.2, by have := H60.out.1; omega⟩)
      go_upto_block 2 with fail
      go_cut [8] from 45 to 234 (fun s8 wc => SwP w b sp bm kb lim nw1 j gi m60 ci V s8 wc)
      case first =>
        rename_i J K' h1 h2
        clear y0 y1' y3 y4 HKp HKa HO HP
        by_cases hput : a = 0 ∨ a = 1 ∨ a = 2 ∨ a = 3
        · refine keeps_put ?_ h2 HS hput
          exact h1
        · by_cases hdue : a = 4 ∨ a = 5
          · refine keeps_due ?_ h2 HS hdue
            exact h1
          · by_cases hack : a = 6 ∨ a = 7
            · refine keeps_ack ?_ h2 HS hack
              exact h1
            · refine keeps_other ?_ h2 HS (by omega)
              exact h1
      case rest =>
        unfold SwP at hcut
        obtain ⟨u1, rfl, hu1, hI⟩ := hcut
        have hI0 := hI.out
        have HB := Lib.hid (And.intro hu1 (And.intro HT.out.2.2.1 (And.intro HT.out.2.2.2.1 HW1.out)))
        clear HT HKp HKa HO y0 y1' y3 y4 HP hu1 HW1 hI HS
        obtain ⟨M1, Mk1, g1, hK1, hA1⟩ := hI0
        have HLn := Lib.hid (len6_any _ _ _ _ _ _ _ _ _ _ _ hK1.win)
        have HNx := Lib.hid (next6_any _ _ _ _ _ _ _ _ _ _ _ hK1.win)
        have hmk := hK1.m.len Try.underlying99
        rw [hK1.len] at hmk
        have h16' := hK1.n
        have HZ := Lib.hid (And.intro hK1 hA1)
        obtain ⟨ml', hml'⟩ : ∃ ml', ml' = M1.length := ⟨_, rfl⟩
        rw [← hml'] at HLn hmk h16'
        have q16 : ((16 : Int) < (ml' : Int)) = False := by simp; omega
        have q16n : (16 < ml') = False := by simp; omega
        clear hml' h16' hK1 hA1
        go_wp2_with (first
          | (go_at_call 57; refine HLn.out.mono ?_; rintro e w' ⟨rfl, hw⟩; cases hw.symm)
          | (go_at_call 54; refine HNx.out.mono ?_; rintro e w' ⟨rfl, hw⟩; cases hw.symm))
        go_roundw
        case rel => exact ⟨j + 1, u1, nw1, by omega, by go_num, rfl, rfl, by have := HB.out; omega, HB.out.1, _, _, _, HZ.out⟩
        case measure => simp [intOf]; omega
    · have hji : ((j : Int) < (m60 : Int)) = False := by simp; omega
      obtain ⟨M, Mk, g, hKp, _⟩ := hI.out
      have hjb : j ≤ 60 := by have := H60.out.1; omega
      obtain ⟨nc, hnc⟩ : ∃ nc : Nat, nc = nw + 41 := ⟨_, rfl⟩
      have e41 : IntKind.i64.wrap ((nw : Int) + 41) = (nc : Int) := by rw [IntKind.wrap_i64]; omega
      have HD := Lib.hid (hKp.allDue (now := (nc : Int)) (by omega) rfl hnc (by omega))
      have hn16 : M.length ≤ 16 := hKp.n
      obtain ⟨n9, hn9⟩ : ∃ n9, n9 = M.length := ⟨_, rfl⟩
      rw [← hn9] at HD hn16
      have HN := Lib.hid (And.intro hn9 hKp.win.len)
      clear hI hKp hj hnw hul hlt hjb hnc hn9 HV HR HC d1 d2 c1 hNm H60
      go_wp2_with fail
      refine HD.out.mono ?_
      clear HD
      rintro e w8 ⟨q9, c9, D, M', rfl, hc9, hm9, hO, hDk, hDl, hK8, hl8⟩
      have hc9i : (c9 : Int) ≤ 9223372036854775807 := by unfold maxLen at hm9; omega
      have HE := Lib.hid (show EnAt w b sp bm kb u lim nc (j + 1) wr.heap.size w8.heap.size M' Mk (dueG 3 40 nc g) q9 n9 c9 D (keysG g u) 0 (.slice none 0 0) w8 from
        ⟨hK8, hO, World.ownsRow_nil _ _ _ _, hK8.st.size, Nat.le_refl _⟩)
      have HDl := Lib.hid (And.intro hDk (And.intro hDl hl8))
      clear hm9 hO hDk hDl hK8 hl8 e41 hji
      go_wp2_with fail
      go_loopw [26, 240] (fun v26 i wx => ∃ (k c : Nat) (q : Option Addr), k ≤ n9 ∧ i = .int .i64 (k : Int) ∧ v26 = .slice q k c ∧ Hid (EnAt w b sp bm kb u lim nc (j + 1) wr.heap.size w8.heap.size M' Mk (dueG 3 40 nc g) q9 n9 c9 D (keysG g u) k (.slice q k c) wx)) (fun _ i wx => n9 - (intOf i).toNat)
      case atStart => exact ⟨0, 0, none, by omega, rfl, rfl, HE.out⟩
      case round =>
        clear HE
        obtain ⟨k, c, q', hk, rfl, rfl, hI⟩ := hrel
        by_cases hlt : k < n9
        · have hki : (k : Int) < (n9 : Int) := by omega
          obtain ⟨i0, hi0, hz0, hz1, hz2⟩ := info_parts info22
          obtain ⟨d, hd⟩ : ∃ d, D[k]? = some d := ⟨_, List.getElem?_eq_getElem (show k < D.length by have := HDl.out.2.1; omega)⟩
          obtain ⟨g9, pq, pc, rfl, x0, x1, x2, _, hpc, hpm⟩ := hI.out.out.at hd
          have hkk : (keysG g u)[k]? = some d.1 := by rw [← HDl.out.1, List.getElem?_map, hd]; rfl
          obtain ⟨kn, hkn⟩ : ∃ kn, kn = d.1 := ⟨_, rfl⟩
          obtain ⟨pl, hpl⟩ : ∃ pl, pl = d.2.1.length := ⟨_, rfl⟩
          obtain ⟨tr, htr⟩ : ∃ tr, tr = d.2.2 := ⟨_, rfl⟩
          rw [← hkn] at x0 hkk
          rw [← hpl] at x1 hpc
          rw [← htr] at x2
          have hpci : (pc : Int) ≤ 9223372036854775807 := by unfold maxLen at hpm; omega
          have HK := Lib.hid (And.intro hI.out hkk)
          clear hI hkk hpm hd hkn hpl htr
          go_wp2_with (at_builtin; refine wpList_append_own _ rfl _ _ 26 rfl w8.heap.size 22 i0 _ 1 4 Try.underlying26 hi0 hz0 hz1 hz2 rfl (by omega) (.slice q' k c) k (n32 ((keysG g u).take k)) rfl ((HK.out.1.row.alloc (.cells #[.int .u32 (kn : Int), .slice pq pl pc, .int .i64 (tr : Int)] 81)).alloc (.cells #[.int .u32 (kn : Int)] 22)) ⟨wr.heap.size + 1, 0, none⟩ 1 1 [.int .u32 (kn : Int)] rfl rfl (new_cells1 (by simp)) (by simp [Value.oneCell']) (by unfold maxLen; omega) (by omega) (by have := HK.out.1.b9.2; simp; omega) ?_; intro v' w' ho hg _; obtain ⟨q3, n3, rfl⟩ := rowForm6 ho; have HDD := Lib.hid (And.intro ho hg); clear ho hg)
          go_roundw
          case rel => exact ⟨k + 1, n3, q3, by omega, by go_num, rfl, HK.out.1.next ((Step.alloc _ _).trans (Step.alloc _ _)) HK.out.2 HDD.out.2 HDD.out.1⟩
          case measure => simp [intOf]; omega
        · have hkn : k = n9 := by omega
          subst k
          obtain ⟨W2, hrun, hrg, hgr, hz2⟩ := hI.out.kp.m.range (t := 99) (e := 71) Try.underlying99
          have hs2 : Step [] wr W2 := Step.ofGrown hgr
          obtain ⟨r, hr⟩ : ∃ r, r = wr.heap.size := ⟨_, rfl⟩
          rw [← hr] at hrun hrg
          have hN : wr.ownsRow w8.heap.size 22 1 (.slice q' n9 c) (keysG g u).length (n32 (keysG g u)) := by
            have h1 := hI.out.row
            have h2 : (keysG g u).length = n9 := by have := HN.out; omega
            rw [List.take_of_length_le (by omega)] at h1
            rw [h2]; exact h1
          have HE := Lib.hid (And.intro hI.out.kp (And.intro hN hr))
          have HR := Lib.hid (And.intro hrg hs2)
          clear hI hlt hk hr hrg hs2 hgr hz2 hN
          go_wp2_with fail
          clear hrun
          go_loopw [29] (fun _ wx => Hid (∃ L, RngV wx kb r Mk L ∧ Step [] wr wx)) (fun _ wx => wx.rangeLeft kb r)
          case atStart => exact ⟨_, HR.out⟩
          case round =>
            clear HR
            obtain ⟨L, hrng, hst⟩ := hrel.out
            rcases hrng.next 0 with ⟨rfl, hnx⟩ | ⟨kk, v, W3, hm, hk, hnx, hr3, hlt, hg3, hz3, hen⟩
            · have HK := Lib.hid ((HE.out.1.same hst).last HDl.out.2.2)
              have hmk := (HE.out.1.same hst).m.len Try.underlying99
              rw [HE.out.1.len, HDl.out.2.2] at hmk
              clear hrel hrng hst HE
              go_wp2_with fail
              refine HK.out.mono ?_
              clear HK
              rintro e w3 ⟨rfl, hW3, hs3⟩
              have HL := Lib.hid (win_late hs3 hW3)
              clear hW3 hs3 hnx
              go_wp2_with fail
              refine HL.out.mono ?_
              clear HL
              rintro e w4 ⟨q4, c4, rfl, hs4⟩
              have H4 := Lib.hid hs4
              clear hs4
              go_wp2_with fail
              refine (tells_any _).mono ?_
              rintro e w5 ⟨rfl, hs5⟩
              have H5 := Lib.hid (H4.out.trans hs5)
              clear hs5 H4
              go_wp2_with fail
              go_ret
              exact ⟨rfl, H5.out⟩
            · have hin : kk ∈ keysG g u := by
                obtain ⟨x, hx, _⟩ := HE.out.1.k.to kk v (hrng.sub _ hm)
                rw [← keysG_due 3 40 nc u g]
                exact mem_keysG.2 ⟨HE.out.1.win.kb _ _ hx, by rw [hx]; rfl⟩
              have hst3 := hst.iter hg3 (by rw [HE.out.2.2]; exact Nat.le_refl _)
              have hct := contains_any _ _ kk W3 (row_isN (row_step HE.out.2.1 hst3 (by simp)))
              rw [decide_eq_true hin] at hct
              have HC := Lib.hid hct
              have HX := Lib.hid (And.intro hr3 (And.intro hst3 hlt))
              clear hrel hrng hst hm hr3 hlt hg3 hz3 hin hst3 hct hk
              go_wp2_with fail
              refine HC.out.mono ?_
              clear HC
              rintro e w4 ⟨rfl, hw⟩
              cases hw
              go_wp2_with fail
              go_roundw
              case rel => exact ⟨_, HX.out.1, HX.out.2.1⟩
              case measure => exact HX.out.2.2
end Go.Proofs.Ytbainekfbonbjaa
