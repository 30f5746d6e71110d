/- WindowKeeps: its switch at Due. Printed by wip/tools/genDueK.py. No statement is proved here; nothing is assumed. -/
import Derived.Test.YtbainekfbonbjaaWinS
import Derived.Test.YtbainekfbonbjaaWinK
import Derived.Test.YtbainekfbonbjaaSrtK
namespace Go.Proofs.Ytbainekfbonbjaa
open Go.RowKit Go.Shelf
set_option linter.unusedVariables false
set_option linter.unusedSimpArgs false
attribute [local go_sem] Oper.semAt_some

theorem dueL_at {now u i : Nat} {g : Kept6} {d : Out6} (h : (dueL now g u)[i]? = some d) : d.1 < u ∧ ∃ x, g d.1 = some x ∧ d.2.1 = x.1 ∧ d.2.2 = x.2.1 + 1 := by
  have hm := List.mem_of_getElem? h
  unfold dueL dueOf at hm
  obtain ⟨k, hk, hd⟩ := List.mem_filterMap.1 hm
  have hku := (mem_keysG.1 hk).1
  unfold dueOne at hd
  split at hd
  · rename_i x hx
    split at hd
    · injection hd with hd
      subst hd
      exact ⟨hku, x, hx, rfl, rfl⟩
    · cases hd
  · cases hd
theorem dueOf_sorted (now : Nat) (g : Kept6) : ∀ l : List Nat, l.Pairwise (· < ·) → (dueOf now g l).Pairwise (fun d d' => d.1 < d'.1)
  | [], _ => List.Pairwise.nil
  | k :: t, h => by
    obtain ⟨h1, h2⟩ := List.pairwise_cons.1 h
    have ih := dueOf_sorted now g t h2
    unfold dueOf at ih ⊢
    rw [List.filterMap_cons]
    split
    · exact ih
    · rename_i d hd
      refine List.pairwise_cons.2 ⟨fun d' hd' => ?_, ih⟩
      obtain ⟨k', hk', he⟩ := List.mem_filterMap.1 hd'
      have e1 : d.1 = k := by
        unfold dueOne at hd
        split at hd
        · split at hd
          · injection hd with hd; subst hd; rfl
          · cases hd
        · cases hd
      have e2 : d'.1 = k' := by
        unfold dueOne at he
        split at he
        · split at he
          · injection he with he; subst he; rfl
          · cases he
        · cases he
      rw [e1, e2]
      exact h1 k' hk'
theorem dueL_up {now u i : Nat} {g : Kept6} {d d' : Out6} (h : (dueL now g u)[i]? = some d) (h' : (dueL now g u)[i + 1]? = some d') : d.1 < d'.1 := by
  have hs := dueOf_sorted now g _ (sorted_keysG g u)
  obtain ⟨l1, e1⟩ := List.getElem?_eq_some_iff.1 h
  obtain ⟨l2, e2⟩ := List.getElem?_eq_some_iff.1 h'
  have := List.pairwise_iff_getElem.1 hs i (i + 1) l1 l2 (by omega)
  rw [← e1, ← e2]
  exact this
theorem KeptA.bm {w W W' : World} {b sp bm kb u lim nw c B k : Nat} {M Mk : Ents} {g : Kept6} {v : Value} {V : Nat → Nat → Value} (h : KeptA B W v k V) (hK : KpAt w b sp bm kb u lim nw c M Mk g W) (hs : Step [bm] W W') : KeptA B W' v k V :=
  h.step hs (fun i hi cur hc => by
    simp at hi
    subst hi
    obtain ⟨es, cl, hb⟩ := hK.win.m.block
    rw [hb] at hc; cases hc)
theorem KeptA.kb {w W W' : World} {b sp bm kb u lim nw c B k : Nat} {M Mk : Ents} {g : Kept6} {v : Value} {V : Nat → Nat → Value} (h : KeptA B W v k V) (hK : KpAt w b sp bm kb u lim nw c M Mk g W) (hs : Step [kb] W W') : KeptA B W' v k V :=
  h.step hs (fun i hi cur hc => by
    simp at hi
    subst hi
    obtain ⟨es, cl, hb⟩ := hK.m.block
    rw [hb] at hc; cases hc)
/-- What the statement's own map has at a number that is due. -/
theorem KpAt.has {w W : World} {b sp bm kb u lim nw c k : Nat} {M Mk : Ents} {g : Kept6} {x : Rec6} (h : KpAt w b sp bm kb u lim nw c M Mk g W) (hx : g k = some x) :
    ∃ q n cc, getE Mk k (.slice none 0 0) = .slice q n cc ∧ hasE Mk k = true ∧ n ≤ cc ∧ cc ≤ maxLen ∧ (convert 71 9 (.slice q n cc)).run Try.prog W = .ok (.string (strN x.1)) W := by
  obtain ⟨v, hv⟩ := h.k.fro k x hx
  obtain ⟨y, hy, q, n, cc, rfl, h1, h2, h3, h4, h5⟩ := h.k.to k v hv
  rw [hx] at hy
  injection hy with hy
  subst hy
  refine ⟨q, n, cc, getE_mem h.k.nd hv _, by rw [h.k.has, hx]; rfl, h1, h2, ?_⟩
  exact back_all W _ x.1 h4 (h5.same h.st)
/-- What goes through the rounds over what was due. -/
structure DuAt (w w9 : World) (b sp bm kb u lim nw1 j gi m60 ci : Nat) (V : Nat → Nat → Value) (M Mk : Ents) (g : Kept6) (q9 : Option Addr) (n9 c9 : Nat) (D : List Out6) (W : World) : Prop where
  o : OutAt w9.heap.size W (.slice q9 n9 c9) D
  k : KpAt w b sp bm kb u lim nw1 j M Mk g W
  a : KeptA w.heap.size W (.slice (some ⟨gi, 0, none⟩) m60 ci) m60 V
theorem DuAt.same {w w9 W W' : World} {b sp bm kb u lim nw1 j gi m60 ci : Nat} {V : Nat → Nat → Value} {M Mk : Ents} {g : Kept6} {q9 : Option Addr} {n9 c9 : Nat} {D : List Out6} (h : DuAt w w9 b sp bm kb u lim nw1 j gi m60 ci V M Mk g q9 n9 c9 D W) (hs : Step [] W W') :
    DuAt w w9 b sp bm kb u lim nw1 j gi m60 ci V M Mk g q9 n9 c9 D W' := ⟨h.o.same hs, h.k.same hs, h.a.same hs⟩
set_option maxRecDepth 100000 in
set_option maxHeartbeats 16000000 in
/-- Due. -/
theorem keeps_due {l0 l2 l3 l4 l6 l10 l12 l13 l14 l15 l16 l17 l18 l19 l20 l21 l22 l23 l24 l25 l26 l27 l28 l29 l30 l31 l32 l33 l34 l35 l36 l37 l38 l39 l40 l41 l42 l43 l44 l45 l46 l47 l48 l49 l50 l51 l52 l53 l55 l56 l57 l58 l59 l60 l61 l62 l63 l64 l65 l66 l67 l68 l69 l70 l71 l72 l73 l74 l75 l76 l77 l78 l79 l80 l81 l82 l83 l84 l85 l86 l87 l88 l89 l90 l91 l92 l93 l94 l95 l96 l97 l98 l99 l100 l101 l102 l103 l104 l105 l106 l107 l108 l109 l110 l111 l112 l113 l114 l115 l116 l117 l118 l119 l120 l121 l122 l123 l124 l125 l126 l127 l128 l129 l130 l131 l132 l133 l134 l135 l136 l137 l138 l139 l140 l141 l142 l143 l144 l145 l146 l147 l148 l149 l150 l151 l152 l153 l154 l155 l156 l157 l158 l159 l160 l161 l162 l163 l164 l165 l166 l167 l168 l169 l170 l171 l172 l173 l174 l175 l176 l177 l178 l179 l180 l181 l182 l183 l184 l185 l186 l187 l188 l189 l190 l191 l192 l193 l194 l195 l196 l197 l198 l199 l200 l201 l202 l203 l204 l205 l206 l207 l208 l209 l210 l211 l212 l213 l214 l215 l216 l217 l218 l219 l220 l221 l222 l223 l224 l225 l226 l227 l228 l229 l230 l231 l232 l233 l234 l235 l236 l237 l238 l239 l240 l241 l242 l243 l244 l245 l246 l247 l248 l249 l250 l251 l252 l253 l254 l255 l256 l257 l258 l259 l260 l261 l262 l263 l264 l265 l266 l267 l268 l269 l270 l271 l272 l273 l274 l275 l276 l277 l278 l279 l280 l281 : Value}
    {J K' : Act → World → Prop} {Q' : Exit → Act → World → Prop} {w wa : World} {b sp bm kb lim nw1 u j gi m60 ci b11 n2 n3 c2 ack mask y y1 : Nat} {V : Nat → Nat → Value} {q2 : Option Addr} {xs : List Nat} {a t : Int} {M Mk : Ents} {g : Kept6}
    (h1 : ∀ a' w', SwRel l0 (.int .u8 (y : Int)) l2 l3 (.pointer (some ⟨b, 0, none⟩)) l6 (.map (some kb)) (.int .i64 (nw1 : Int)) l10 (.pointer (some ⟨b11, 0, none⟩)) l26 l27 l28 l29 l30 l31 l32 l33 l34 l35 l36 l37 l38 l39 l40 l41 l42 l43 l44 l235 l236 l237 l238 l239 l240 l241 l242 l243 l244 l245 l246 l247 l248 l249 l250 l251 l252 l253 l254 l255 l256 l257 l258 l259 l260 l261 l262 l263 l264 l265 l266 l267 l268 l269 l270 l271 l272 l273 l274 l275 l276 l277 l278 l279 l280 l281 (SwP w b sp bm kb lim nw1 j gi m60 ci V) a' w' → J a' w') (h2 : ∀ a' w', Met J a' w' → K' a' w')
    (HS : Hid (SwAt w wa b sp bm kb lim nw1 u j gi m60 ci b11 n2 n3 c2 ack mask y y1 V q2 xs a t M Mk g)) (hdue : a = 4 ∨ a = 5) :
    (blkN 2).wp Try.prog (Exit.then K' Q') ⟨#[l0, .int .u8 (y : Int), l2, l3, l4, .pointer (some ⟨b, 0, none⟩), l6, .map (some kb), .int .u32 (u : Int), .int .i64 (nw1 : Int), l10, .pointer (some ⟨b11, 0, none⟩), l12, l13, l14, l15, l16, l17, l18, l19, l20, l21, l22, l23, l24, l25, l26, l27, l28, l29, l30, l31, l32, l33, l34, l35, l36, l37, l38, l39, l40, l41, l42, l43, l44, l45, l46, l47, l48, l49, l50, l51, l52, l53, .int .i64 a, l55, l56, l57, l58, l59, l60, l61, l62, l63, l64, l65, l66, l67, l68, l69, l70, l71, l72, l73, l74, l75, l76, l77, l78, l79, l80, l81, l82, l83, l84, l85, l86, l87, l88, l89, l90, l91, l92, l93, l94, l95, l96, l97, l98, l99, l100, l101, l102, l103, l104, l105, l106, l107, l108, l109, l110, l111, l112, l113, l114, l115, l116, l117, l118, l119, l120, l121, l122, l123, l124, l125, l126, l127, l128, l129, l130, l131, l132, l133, l134, l135, l136, l137, l138, l139, l140, l141, l142, l143, l144, l145, l146, l147, l148, l149, l150, l151, l152, l153, l154, l155, l156, l157, l158, l159, l160, l161, l162, l163, l164, l165, l166, l167, l168, l169, l170, l171, l172, l173, l174, l175, l176, l177, l178, l179, l180, l181, l182, l183, l184, l185, l186, l187, l188, l189, l190, l191, l192, l193, l194, l195, l196, l197, l198, l199, l200, l201, l202, l203, l204, l205, l206, l207, l208, l209, l210, l211, l212, l213, l214, l215, l216, l217, l218, l219, l220, l221, l222, l223, l224, l225, l226, l227, l228, l229, l230, l231, l232, l233, l234, l235, l236, l237, l238, l239, l240, l241, l242, l243, l244, l245, l246, l247, l248, l249, l250, l251, l252, l253, l254, l255, l256, l257, l258, l259, l260, l261, l262, l263, l264, l265, l266, l267, l268, l269, l270, l271, l272, l273, l274, l275, l276, l277, l278, l279, l280, l281], []⟩ wa := by
  have t0 : (a == 0) = false := by simp; omega
  have t1 : (a == 1) = false := by simp; omega
  have t2 : (a == 2) = false := by simp; omega
  have t3 : (a == 3) = false := by simp; omega
  have HKp := Lib.hid HS.out.kp
  have HKa := Lib.hid HS.out.ka
  conv => arg 2; whnf
  go_upto_if 106 with fail
  go_cut [106] from 45 to 234 (fun s106 wc => s106 = .bool true ∧ wc = wa)
  case first =>
    clear HKp HKa HS t0 t1 t2 t3
    rcases hdue with rfl | rfl
    all_goals
      go_wp2_with fail
      go_meet
      case rel => exact ⟨rfl, rfl⟩
  case rest =>
    obtain ⟨rfl, hw⟩ := hcut
    cases hw.symm
    clear hdue t0 t1 t2 t3
    have HD := Lib.hid (due6_any pdqAt255 (by omega) w.heap.size b sp bm u lim 3 40 M g wa HKp.out.win HKp.out.st.size (by have := HKp.out.n; omega) (fun k x hx => by have := (HKp.out.at_ k x hx).2; have := HS.out.jm; omega) (nw1 : Int) nw1 (by have := HS.out.nw; omega))
    go_wp2_with fail
    refine HD.out.mono ?_
    clear HD
    rintro e w9 ⟨v9, M9, rfl, hO9, hW9, hl9, hs9⟩
    obtain ⟨D, hD⟩ : ∃ D, D = dueL nw1 g u := ⟨_, rfl⟩
    rw [← hD] at hO9
    obtain ⟨q9, c9, rfl, hc9, hm9⟩ := hO9.form
    obtain ⟨n9, hn9⟩ : ∃ n9, n9 = D.length := ⟨_, rfl⟩
    rw [← hn9] at hO9 hc9 ⊢
    have hc9i : (c9 : Int) ≤ 9223372036854775807 := by unfold maxLen at hm9; omega
    have hK9 := HKp.out.due hW9 hl9 hs9
    have hA9 := HKa.out.bm HKp.out hs9
    have H9 := Lib.hid (show DuAt w wa b sp bm kb u lim nw1 (j + 1) gi m60 ci V M9 Mk (dueG 3 40 nw1 g) q9 n9 c9 D w9 from ⟨hO9, hK9, hA9⟩)
    have HDD := Lib.hid (And.intro hD (And.intro hn9 HS.out.ul))
    clear hO9 hm9 hW9 hl9 hs9 hK9 hA9 hD hn9 HKp HKa HS
    go_wp2_with fail
    go_loopw [16, 113] (fun v16 i wr => ∃ (k last : Nat), k ≤ n9 ∧ i = .int .i64 (k : Int) ∧ v16 = .int .u32 (last : Int) ∧ Hid ((∀ k' d, k = k' + 1 → D[k']? = some d → last = d.1) ∧ DuAt w wa b sp bm kb u lim nw1 (j + 1) gi m60 ci V M9 Mk (dueG 3 40 nw1 g) q9 n9 c9 D wr)) (fun _ i wr => n9 - (intOf i).toNat)
    case atStart => exact ⟨0, 0, by omega, rfl, rfl, by simp, H9.out⟩
    case round =>
      clear H9
      obtain ⟨k, last, hk, rfl, rfl, hI⟩ := hrel
      by_cases hlt : k < n9
      · have hki : (k : Int) < (n9 : Int) := by omega
        obtain ⟨⟨num, pay, tri⟩, hd⟩ : ∃ d, D[k]? = some d := ⟨_, List.getElem?_eq_getElem (show k < D.length by have := HDD.out.2.1; omega)⟩
        obtain ⟨g9, pq, pc, rfl, x0, x1, x2, r3, hpc, hpm⟩ := OutAt.at hI.out.2.o hd
        dsimp only at x0 x1 x2 r3 hpc
        obtain ⟨hnu, x, hx, ep, et⟩ := dueL_at (by rw [← HDD.out.1]; exact hd)
        dsimp only at hnu hx ep et
        obtain ⟨qq, nn, cc, e1, e2, e3, e4, e5⟩ := (hI.out.2.k.same (Step.alloc (S := []) wr (.cells #[.int .u32 (num : Int), .slice pq pay.length pc, .int .i64 (tri : Int)] 81))).has (k := num) (x := dueX 3 40 nw1 x) (by unfold dueG; rw [hx]; rfl)
        have hpx : (dueX 3 40 nw1 x).1 = pay := by rw [ep]; unfold dueX; split <;> rfl
        rw [hpx] at e5
        have hlk := (hI.out.2.k.same (Step.alloc (S := []) wr (.cells #[.int .u32 (num : Int), .slice pq pay.length pc, .int .i64 (tri : Int)] 81))).m.look_ok Try.underlying99 rfl (k := num) (by have := HDD.out.2.2; have := hnu; omega)
        rw [e1, e2] at hlk
        have hcv := back_all _ _ pay r3.2.2 ((r3.same (Step.alloc (S := []) wr (.cells #[.int .u32 (num : Int), .slice pq pay.length pc, .int .i64 (tri : Int)] 81))).1.reads)
        obtain ⟨pl, hpl⟩ : ∃ pl, pl = pay.length := ⟨_, rfl⟩
        rw [← hpl] at hlk hcv x1 e5 hpc
        have htr : ((tri : Int) < 1) = False := by simp; omega
        have htrn : (tri < 1) = False := by simp; omega
        have hpci : (pc : Int) ≤ 9223372036854775807 := by unfold maxLen at hpm; omega
        have hcci : (cc : Int) ≤ 9223372036854775807 := by unfold maxLen at e4; omega
        have HH := Lib.hid (And.intro hd hI.out)
        clear hI hx ep et e1 e2 hpx r3 hpm e4 hpl
        have hrel2 : ∀ wr2, Step [] wr wr2 → (∃ (k2 last2 : Nat), k2 ≤ n9 ∧ (Value.int .i64 ((k : Int) + 1)) = .int .i64 (k2 : Int) ∧ (Value.int .u32 (num : Int)) = .int .u32 (last2 : Int) ∧ Hid ((∀ k' d, k2 = k' + 1 → D[k']? = some d → last2 = d.1) ∧ DuAt w wa b sp bm kb u lim nw1 (j + 1) gi m60 ci V M9 Mk (dueG 3 40 nw1 g) (some ⟨g9, 0, none⟩) n9 c9 D wr2)) := by
          intro wr2 hst
          refine ⟨k + 1, num, by omega, by go_num, rfl, ⟨fun k' d hk' hd' => ?_, HH.out.2.2.same hst⟩⟩
          obtain rfl : k' = k := by omega
          rw [HH.out.1] at hd'
          injection hd' with hd'
          subst hd'
          rfl
        have HR := Lib.hid hrel2
        clear hrel2
        by_cases hk0 : k = 0
        · subst hk0
          have k0 : ((0 : Int) < ((0 : Nat) : Int)) = False := by simp
          go_wp2_with fail
          go_roundw
          case rel => exact HR.out _ (Step.alloc _ _)
          case measure => simp [intOf]; omega
        · have k0 : ((0 : Int) < (k : Int)) = True := by simp; omega
          have k0n : (0 < k) = True := by simp; omega
          obtain ⟨d', hd'⟩ : ∃ d', D[k - 1]? = some d' := ⟨_, List.getElem?_eq_getElem (show k - 1 < D.length by have := HDD.out.2.1; omega)⟩
          have e1 := HH.out.2.1 (k - 1) d' (by omega) hd'
          have e2 : d'.1 < num := by
            have h1 := HDD.out.1
            refine dueL_up (now := nw1) (g := g) (u := u) (i := k - 1) (d' := (num, pay, tri)) (by rw [← h1]; exact hd') ?_
            rw [← h1, show k - 1 + 1 = k by omega]
            exact HH.out.1
          have q0 : ((num : Int) ≤ (last : Int)) = False := by simp; omega
          have q0n : (num ≤ last) = False := by simp; omega
          clear e1 e2 hd' hk0
          go_wp2_with fail
          go_roundw
          case rel => exact HR.out _ (Step.alloc _ _)
          case measure => simp [intOf]; omega
      · obtain rfl : k = n9 := by omega
        have HZ := Lib.hid (And.intro hI.out.2.k hI.out.2.a)
        clear hI hlt
        go_wp2_with fail
        refine Met.intro ?_
        refine h1 _ _ ?_
        unfold SwRel
        (repeat apply Exists.intro)
        exact ⟨⟨u, rfl, HDD.out.2.2.1, ⟨_, _, _, HZ.out⟩⟩, rfl⟩
end Go.Proofs.Ytbainekfbonbjaa
