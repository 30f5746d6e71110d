/- WindowKeeps: its switch at Ack. Printed by wip/tools/genAckK.py. No statement is proved here; nothing is assumed. -/
import Derived.Test.YtbainekfbonbjaaWinT
namespace Go.Proofs.Ytbainekfbonbjaa
open Go.RowKit Go.Shelf
set_option linter.unusedVariables false
set_option linter.unusedSimpArgs false
attribute [local go_sem] Oper.semAt_some

/-- Is a number told? -/
def toldB (ack mask k : Nat) : Bool := decide (k < ack ∨ k ∈ toldL ack mask)
theorem toldB_low {ack mask k : Nat} (h : k < ack) : toldB ack mask k = true := by unfold toldB; simp [h]
theorem toldB_eq (ack mask k : Nat) (h : k = ack) : toldB ack mask k = false := by
  unfold toldB toldL
  subst h
  simp [List.mem_filter, List.mem_range']
  omega
theorem toldB_far {ack mask k : Nat} (h : ack + 32 < k) : toldB ack mask k = false := by
  unfold toldB toldL
  have hb := behind_le ack
  have h1 : ¬ k < ack := by omega
  have h2 : k ∉ (List.range' (ack + 1) (behindLen ack)).filter (tells ack mask) := by
    rw [List.mem_filter, List.mem_range'_1]
    omega
  simp [h1, h2]
theorem toldB_bit {ack mask k : Nat} (h1 : ack < k) (h2 : k ≤ ack + 32) (h3 : k < 4294967296) (hm : mask < 4294967296) : (bits BinOp.and IntKind.u32 ((mask : Int) / 2 ^ (k - ack - 1)) 1 == 1) = toldB ack mask k := by
  have e : ((mask : Int) / 2 ^ (k - ack - 1)) = ((mask / 2 ^ (k - ack - 1) : Nat) : Int) := by push_cast; rfl
  have hlt : mask / 2 ^ (k - ack - 1) < 4294967296 := Nat.lt_of_le_of_lt (Nat.div_le_self _ _) hm
  rw [e, show (1 : Int) = ((1 : Nat) : Int) from rfl, u32_and_nat _ _ hlt (by omega), Nat.and_one_is_mod]
  have h4 : toldB ack mask k = tells ack mask k := by
    unfold toldB toldL
    have hb : behindLen ack = min 32 (4294967295 - ack) := rfl
    rw [Bool.eq_iff_iff]
    simp only [decide_eq_true_eq, List.mem_filter, List.mem_range'_1]
    constructor
    · rintro (h | h)
      · omega
      · exact h.2
    · intro h
      exact .inr ⟨by omega, h⟩
  rw [h4]
  unfold tells
  rw [Bool.eq_iff_iff]; simp; omega
/-- What the statement's own map has left behind n rounds. -/
def akG (ack mask u n : Nat) (g : Kept6) : Kept6 := fun k => if k < n ∧ ack ≤ u ∧ toldB ack mask k = true then none else g k
theorem akG_zero (ack mask u : Nat) (g : Kept6) : akG ack mask u 0 g = g := by funext k; unfold akG; rw [if_neg (by omega)]
theorem akG_go {ack mask u n : Nat} {g : Kept6} (ha : ack ≤ u) (ht : toldB ack mask n = true) : akG ack mask u (n + 1) g = setG (akG ack mask u n g) n none := by
  funext k
  unfold akG setG
  dsimp only
  by_cases e : k = n
  · subst e; rw [if_pos ⟨by omega, ha, ht⟩, if_pos rfl]
  · rw [if_neg e]
    by_cases h : k < n
    · simp [h, show k < n + 1 by omega]
    · rw [if_neg (fun hh => by omega), if_neg (fun hh => h hh.1)]
theorem akG_skip {ack mask u n : Nat} {g : Kept6} (h : ¬ (ack ≤ u ∧ toldB ack mask n = true) ∨ akG ack mask u n g n = none) : akG ack mask u (n + 1) g = akG ack mask u n g := by
  funext k
  by_cases e : k = n
  · subst e
    rcases h with h | h
    · unfold akG
      rw [if_neg (fun hh => h hh.2), if_neg (fun hh => h hh.2)]
    · rw [h]
      unfold akG at h ⊢
      rw [if_neg (fun hh => by omega)] at h
      rw [h]; simp
  · unfold akG
    by_cases hk : k < n
    · simp [hk, show k < n + 1 by omega]
    · rw [if_neg (fun hh => by omega), if_neg (fun hh => hk hh.1)]
theorem akG_all {ack mask u : Nat} {g : Kept6} (hk : ∀ k x, g k = some x → k < u) (ha : ack ≤ u) : akG ack mask u u g = ackG ack mask g := by
  funext k
  unfold akG ackG toldB
  by_cases h : k < u
  · simp [h, ha]
  · have : g k = none := by
      cases e : g k with
      | none => rfl
      | some x => exact absurd (hk k x e) h
    rw [this]; simp
theorem akG_far {ack mask u n : Nat} {g : Kept6} (ha : u < ack) : akG ack mask u n g = g := by
  funext k; unfold akG; rw [if_neg (fun hh => by omega)]
/-- What the rounds of Ack go along with. -/
structure AkAt (w wa : World) (kb b11 ack mask u n many : Nat) (Mk : Ents) (g : Kept6) (ob : Obj) (W : World) : Prop where
  m : ∃ Mk', MapV W kb Mk' ∧ RepW (PutIs w) Mk' (akG ack mask u n g) ∧ many + Mk'.length = Mk.length
  o : W.heap[b11]? = some ob
  s : Step [kb] wa W
theorem AkAt.skip {w wa W : World} {kb b11 ack mask u n many : Nat} {Mk : Ents} {g : Kept6} {ob : Obj} (h : AkAt w wa kb b11 ack mask u n many Mk g ob W) (hs : ¬ (ack ≤ u ∧ toldB ack mask n = true) ∨ akG ack mask u n g n = none) : AkAt w wa kb b11 ack mask u (n + 1) many Mk g ob W := by
  obtain ⟨⟨Mk', h1, h2, h3⟩, h4, h5⟩ := h
  exact ⟨⟨Mk', h1, by rw [akG_skip hs]; exact h2, h3⟩, h4, h5⟩
theorem AkAt.go {w wa W W' : World} {kb b11 ack mask u n many : Nat} {Mk Mk' : Ents} {g : Kept6} {ob : Obj} (hob : ∃ cs t, ob = .cells cs t) (h : AkAt w wa kb b11 ack mask u n many Mk g ob W) (ha : ack ≤ u) (ht : toldB ack mask n = true)
    (h1 : MapV W kb Mk') (h2 : RepW (PutIs w) Mk' (akG ack mask u n g)) (h3 : many + Mk'.length = Mk.length) (hh : hasE Mk' n = true) (hm : MapV W' kb (delE Mk' n)) (hs : Step [kb] W W') : AkAt w wa kb b11 ack mask u (n + 1) (many + 1) Mk g ob W' := by
  obtain ⟨cs, t, rfl⟩ := hob
  have hne : b11 ≠ kb := fun e => by
    obtain ⟨es, cl, hb⟩ := h1.block
    have := h.o
    rw [e, hb] at this; cases this
  refine ⟨⟨_, hm, by rw [akG_go ha ht]; exact h2.del n, ?_⟩, obj_step h.o hs (by simp; exact hne), h.s.trans hs⟩
  have := len_del h2.nd n
  rw [hh] at this
  simp at this
  omega
/-- Behind the rounds: Ack. -/
theorem KpAt.far {w W W2 W' : World} {b sp bm kb u lim nw c : Nat} {M Mk Mk' : Ents} {g : Kept6} (h : KpAt w b sp bm kb u lim nw c M Mk g W) (hk : MapV W2 kb Mk') (hks : Step [kb] W W2) (hr : RepW (PutIs w) Mk' g)
    (h1 : WinM w.heap.size W2 b sp bm u lim 3 40 M g) (hs : Step [] W2 W') : KpAt w b sp bm kb u lim nw c M Mk' g W' := by
  refine ⟨h1.same hs, hk.keep hs (by simp), hr, h.lo, h.ne, ?_, h.n, h.at_⟩
  have h2 : Step [] w W2 := h.st.trans' hks (fun _ h _ => h) (fun i hi hl => by have := h.lo; simp at hi; omega)
  exact h2.trans hs
theorem KpAt.overKb {w W W2 : World} {b sp bm kb u lim nw c : Nat} {M Mk : Ents} {g : Kept6} (h : KpAt w b sp bm kb u lim nw c M Mk g W) (hks : Step [kb] W W2) : WinM w.heap.size W2 b sp bm u lim 3 40 M g :=
  h.win.step hks (fun i hi => by
    simp at hi
    subst hi
    obtain ⟨es, cl, hb⟩ := h.m.block
    exact ⟨h.kbs.1, h.kbs.2, h.ne, fun cur hc => by rw [hb] at hc; cases hc⟩)
set_option maxRecDepth 100000 in
set_option maxHeartbeats 16000000 in
/-- Ack. -/
theorem keeps_ack {l0 l2 l3 l4 l6 l10 l12 l13 l14 l15 l16 l17 l18 l19 l20 l21 l22 l23 l24 l25 l26 l27 l28 l29 l30 l31 l32 l33 l34 l35 l36 l37 l38 l39 l40 l41 l42 l43 l44 l45 l46 l47 l48 l49 l50 l51 l52 l53 l55 l56 l57 l58 l59 l60 l61 l62 l63 l64 l65 l66 l67 l68 l69 l70 l71 l72 l73 l74 l75 l76 l77 l78 l79 l80 l81 l82 l83 l84 l85 l86 l87 l88 l89 l90 l91 l92 l93 l94 l95 l96 l97 l98 l99 l100 l101 l102 l103 l104 l105 l106 l107 l108 l109 l110 l111 l112 l113 l114 l115 l116 l117 l118 l119 l120 l121 l122 l123 l124 l125 l126 l127 l128 l129 l130 l131 l132 l133 l134 l135 l136 l137 l138 l139 l140 l141 l142 l143 l144 l145 l146 l147 l148 l149 l150 l151 l152 l153 l154 l155 l156 l157 l158 l159 l160 l161 l162 l163 l164 l165 l166 l167 l168 l169 l170 l171 l172 l173 l174 l175 l176 l177 l178 l179 l180 l181 l182 l183 l184 l185 l186 l187 l188 l189 l190 l191 l192 l193 l194 l195 l196 l197 l198 l199 l200 l201 l202 l203 l204 l205 l206 l207 l208 l209 l210 l211 l212 l213 l214 l215 l216 l217 l218 l219 l220 l221 l222 l223 l224 l225 l226 l227 l228 l229 l230 l231 l232 l233 l234 l235 l236 l237 l238 l239 l240 l241 l242 l243 l244 l245 l246 l247 l248 l249 l250 l251 l252 l253 l254 l255 l256 l257 l258 l259 l260 l261 l262 l263 l264 l265 l266 l267 l268 l269 l270 l271 l272 l273 l274 l275 l276 l277 l278 l279 l280 l281 : Value}
    {J K' : Act → World → Prop} {Q' : Exit → Act → World → Prop} {w wa : World} {b sp bm kb lim nw1 u j gi m60 ci b11 n2 n3 c2 ack mask y y1 : Nat} {V : Nat → Nat → Value} {q2 : Option Addr} {xs : List Nat} {a t : Int} {M Mk : Ents} {g : Kept6}
    (h1 : ∀ a' w', SwRel l0 (.int .u8 (y : Int)) l2 l3 (.pointer (some ⟨b, 0, none⟩)) l6 (.map (some kb)) (.int .i64 (nw1 : Int)) l10 (.pointer (some ⟨b11, 0, none⟩)) l26 l27 l28 l29 l30 l31 l32 l33 l34 l35 l36 l37 l38 l39 l40 l41 l42 l43 l44 l235 l236 l237 l238 l239 l240 l241 l242 l243 l244 l245 l246 l247 l248 l249 l250 l251 l252 l253 l254 l255 l256 l257 l258 l259 l260 l261 l262 l263 l264 l265 l266 l267 l268 l269 l270 l271 l272 l273 l274 l275 l276 l277 l278 l279 l280 l281 (SwP w b sp bm kb lim nw1 j gi m60 ci V) a' w' → J a' w') (h2 : ∀ a' w', Met J a' w' → K' a' w')
    (HS : Hid (SwAt w wa b sp bm kb lim nw1 u j gi m60 ci b11 n2 n3 c2 ack mask y y1 V q2 xs a t M Mk g)) (hack : a = 6 ∨ a = 7) :
    (blkN 2).wp Try.prog (Exit.then K' Q') ⟨#[l0, .int .u8 (y : Int), l2, l3, l4, .pointer (some ⟨b, 0, none⟩), l6, .map (some kb), .int .u32 (u : Int), .int .i64 (nw1 : Int), l10, .pointer (some ⟨b11, 0, none⟩), l12, l13, l14, l15, l16, l17, l18, l19, l20, l21, l22, l23, l24, l25, l26, l27, l28, l29, l30, l31, l32, l33, l34, l35, l36, l37, l38, l39, l40, l41, l42, l43, l44, l45, l46, l47, l48, l49, l50, l51, l52, l53, .int .i64 a, l55, l56, l57, l58, l59, l60, l61, l62, l63, l64, l65, l66, l67, l68, l69, l70, l71, l72, l73, l74, l75, l76, l77, l78, l79, l80, l81, l82, l83, l84, l85, l86, l87, l88, l89, l90, l91, l92, l93, l94, l95, l96, l97, l98, l99, l100, l101, l102, l103, l104, l105, l106, l107, l108, l109, l110, l111, l112, l113, l114, l115, l116, l117, l118, l119, l120, l121, l122, l123, l124, l125, l126, l127, l128, l129, l130, l131, l132, l133, l134, l135, l136, l137, l138, l139, l140, l141, l142, l143, l144, l145, l146, l147, l148, l149, l150, l151, l152, l153, l154, l155, l156, l157, l158, l159, l160, l161, l162, l163, l164, l165, l166, l167, l168, l169, l170, l171, l172, l173, l174, l175, l176, l177, l178, l179, l180, l181, l182, l183, l184, l185, l186, l187, l188, l189, l190, l191, l192, l193, l194, l195, l196, l197, l198, l199, l200, l201, l202, l203, l204, l205, l206, l207, l208, l209, l210, l211, l212, l213, l214, l215, l216, l217, l218, l219, l220, l221, l222, l223, l224, l225, l226, l227, l228, l229, l230, l231, l232, l233, l234, l235, l236, l237, l238, l239, l240, l241, l242, l243, l244, l245, l246, l247, l248, l249, l250, l251, l252, l253, l254, l255, l256, l257, l258, l259, l260, l261, l262, l263, l264, l265, l266, l267, l268, l269, l270, l271, l272, l273, l274, l275, l276, l277, l278, l279, l280, l281], []⟩ wa := by
  have t0 : (a == 0) = false := by simp; omega
  have t1 : (a == 1) = false := by simp; omega
  have t2 : (a == 2) = false := by simp; omega
  have t3 : (a == 3) = false := by simp; omega
  have t4 : (a == 4) = false := by simp; omega
  have t5 : (a == 5) = false := by simp; omega
  have HKp := Lib.hid HS.out.kp
  have HKa := Lib.hid HS.out.ka
  conv => arg 2; whnf
  go_upto_if 153 with fail
  go_cut [153] from 45 to 234 (fun s153 wc => s153 = .bool true ∧ wc = wa)
  case first =>
    clear HKp HKa HS t0 t1 t2 t3 t4 t5
    rcases hack with rfl | rfl
    all_goals
      go_wp2_with fail
      go_meet
      case rel => exact ⟨rfl, rfl⟩
  case rest =>
    obtain ⟨rfl, hw⟩ := hcut
    cases hw.symm
    clear hack t0 t1 t2 t3 t4 t5
    obtain ⟨ob, hob⟩ : ∃ ob, ob = Obj.cells #[.int .i64 a, .slice q2 n3 c2, .int .i64 t, .int .u32 (ack : Int), .int .u32 (mask : Int)] 73 := ⟨_, rfl⟩
    have H9 := Lib.hid (show AkAt w wa kb b11 ack mask u 0 0 Mk g ob wa from ⟨⟨Mk, HKp.out.m, by rw [akG_zero]; exact HKp.out.k, by omega⟩, by rw [hob]; exact HS.out.o, Step.refl _ _⟩)
    have HB := Lib.hid hob
    have hu50 : u ≤ 50 := by have := HS.out.ul; omega
    have ha32 := HS.out.am.1
    clear hob
    go_wp2_with fail
    go_loopw [21, 157] (fun v21 i wr => ∃ (n many : Nat), n ≤ u ∧ i = .int .u32 (n : Int) ∧ v21 = .int .i64 (many : Int) ∧ many ≤ n ∧ Hid (AkAt w wa kb b11 ack mask u n many Mk g ob wr)) (fun _ i wr => u - (intOf i).toNat)
    case atStart => exact ⟨0, 0, by omega, rfl, rfl, by omega, H9.out⟩
    case round =>
      clear H9
      obtain ⟨n, many, hn, rfl, rfl, hmn, hI⟩ := hrel
      have o1 := hI.out.o
      rw [HB.out] at o1
      have y3 := cells_cell (i := 3) o1 rfl
      have y4 := cells_cell (i := 4) o1 rfl
      clear o1
      by_cases hlt : n < u
      · have hni : (n : Int) < (u : Int) := by omega
        go_upto_region 42 with fail
        go_cut [23] from 158 to 209 (fun s23 wc => s23 = .bool (toldB ack mask n) ∧ wc = wr)
        case first =>
          by_cases hA : n < ack
          · have a1 : ((n : Int) < (ack : Int)) = True := by simp; omega
            have a2 : (n < ack) = True := by simp; omega
            have HE := Lib.hid (toldB_low (mask := mask) hA)
            clear hA
            go_wp2_with fail
            go_meet
            case rel => exact ⟨by rw [HE.out], rfl⟩
          · have a1 : ((n : Int) < (ack : Int)) = False := by simp; omega
            have a2 : (n < ack) = False := by simp; omega
            by_cases hB : n = ack
            · have a3 : ((ack : Int) < (n : Int)) = False := by simp; omega
              have a4 : (ack < n) = False := by simp; omega
              have HE := Lib.hid (toldB_eq ack mask n hB)
              clear hA hB
              go_wp2_with fail
              go_meet
              case rel => exact ⟨by rw [HE.out], rfl⟩
            · have a3 : ((ack : Int) < (n : Int)) = True := by simp; omega
              have a4 : (ack < n) = True := by simp; omega
              have a5 : ack < n := by omega
              by_cases hC : ack + 32 < n
              · have a6 : ((n : Int) - (ack : Int) ≤ 32) = False := by simp; omega
                have HE := Lib.hid (toldB_far (mask := mask) hC)
                clear hA hB
                go_wp2_with fail
                go_meet
                case rel => exact ⟨by rw [HE.out], rfl⟩
              · have a6 : ((n : Int) - (ack : Int) ≤ 32) = True := by simp; omega
                have a7 : n ≤ ack + 32 := by omega
                have HE := Lib.hid (toldB_bit (mask := mask) a5 a7 (by omega) HS.out.am.2)
                clear hA hB hC
                go_wp2_with fail
                go_meet
                case rel => exact ⟨by rw [← HE.out], rfl⟩
        case rest =>
          obtain ⟨rfl, hw⟩ := hcut
          cases hw.symm
          obtain ⟨Mk', h1, h2, h3⟩ := hI.out.m
          have hlk := h1.look_ok Try.underlying99 rfl (k := n) (by omega)
          obtain ⟨gv, hgv⟩ : ∃ v, v = getE Mk' n (.slice none 0 0) := ⟨_, rfl⟩
          rw [← hgv] at hlk
          clear hgv
          obtain ⟨td, htd⟩ : ∃ td, td = toldB ack mask n := ⟨_, rfl⟩
          rw [← htd]
          by_cases hh : hasE Mk' n = true
          · rw [hh] at hlk
            by_cases ht : td = true
            · subst ht
              by_cases hau : ack ≤ u
              · have b1 : ((ack : Int) ≤ (u : Int)) = True := by simp; omega
                have b2 : (ack ≤ u) = True := by simp; omega
                obtain ⟨W', hrun, hm, hs⟩ := h1.drop Try.underlying99 (k := n) (by omega) 0
                have HZ := Lib.hid (AkAt.go ⟨_, _, HB.out⟩ hI.out hau htd.symm h1 h2 h3 hh hm hs)
                clear h1 h2 h3 hh hm hs hau htd y4
                go_wp2_with fail
                go_roundw
                case rel => exact ⟨n + 1, many + 1, by omega, by go_num, by go_num, by omega, HZ.out⟩
                case measure => simp [intOf]; omega
              · have b1 : ((ack : Int) ≤ (u : Int)) = False := by simp; omega
                have b2 : (ack ≤ u) = False := by simp; omega
                have HZ := Lib.hid (hI.out.skip (.inl fun hh => hau hh.1))
                clear h1 h2 h3 hh hau htd
                go_wp2_with fail
                go_roundw
                case rel => exact ⟨n + 1, many, by omega, by go_num, rfl, by omega, HZ.out⟩
                case measure => simp [intOf]; omega
            · obtain rfl : td = false := by simpa using ht
              have HZ := Lib.hid (hI.out.skip (.inl fun hh => by rw [← htd] at hh; simp at hh))
              clear h1 h2 h3 hh htd ht
              go_wp2_with fail
              go_roundw
              case rel => exact ⟨n + 1, many, by omega, by go_num, rfl, by omega, HZ.out⟩
              case measure => simp [intOf]; omega
          · have hf : hasE Mk' n = false := by simpa using hh
            rw [hf] at hlk
            have HZ := Lib.hid (hI.out.skip (.inr (by
              rw [h2.has] at hf
              cases e : akG ack mask u n g n with
              | none => rfl
              | some x => rw [e] at hf; simp at hf)))
            clear h1 h2 h3 hh hf htd
            go_wp2_with fail
            go_roundw
            case rel => exact ⟨n + 1, many, by omega, by go_num, rfl, by omega, HZ.out⟩
            case measure => simp [intOf]; omega
      · have hnu : n = u := by omega
        rw [hnu] at hI
        rw [hnu]
        clear hnu hlt hn hmn
        obtain ⟨Mk', h1, h2, h3⟩ := hI.out.m
        have hW := HKp.out.overKb hI.out.s
        by_cases hau : ack ≤ u
        · rw [akG_all HKp.out.win.kb hau] at h2
          have HA := Lib.hid (ack6_any hW (by have := HKp.out.n; omega) ack mask hau HS.out.am.2)
          have HH := Lib.hid (And.intro h1 (And.intro h2 (And.intro h3 hW)))
          clear h1 h2 h3 hW hau
          go_wp2_with fail
          refine HA.out.mono ?_
          clear HA
          rintro e w3 ⟨M3, rfl, hW3, hl3, hs3⟩
          have hm : (M.length : Int) - (M3.length : Int) = (many : Int) := by
            have e1 := HKp.out.len
            have e2 := HH.out.2.2.1
            have e3 := HH.out.2.1.len hW3.kb
            have e4 := hW3.len
            omega
          rw [hm]
          have hK3 := HKp.out.ack HH.out.1 hI.out.s HH.out.2.1 hW3 hl3 hs3
          have hA3 := (HKa.out.kb HKp.out hI.out.s).step hs3 (fun i hi cur hc => by
            simp at hi
            subst hi
            obtain ⟨es, cl, hb⟩ := HH.out.2.2.2.m.block
            rw [hb] at hc; cases hc)
          have HZ := Lib.hid (And.intro hK3.more hA3)
          clear hW3 hl3 hs3 hm hK3 hA3 y3 y4
          go_wp2_with fail
          refine Met.intro ?_
          refine h1 _ _ ?_
          unfold SwRel
          (repeat apply Exists.intro)
          exact ⟨⟨u, rfl, HS.out.ul.1, ⟨_, _, _, HZ.out⟩⟩, rfl⟩
        · have HA := Lib.hid (ack6_far hW ack mask (by omega))
          rw [akG_far (by omega)] at h2
          have e3 := h2.len HKp.out.win.kb
          have e4 := HKp.out.k.len HKp.out.win.kb
          have hm0 : many = 0 := by omega
          subst hm0
          have HH := Lib.hid (And.intro h1 (And.intro h2 hW))
          clear h1 h2 h3 hW hau e3 e4
          go_wp2_with fail
          refine HA.out.mono ?_
          clear HA
          rintro e w3 ⟨rfl, hs3⟩
          have hK3 := HKp.out.far HH.out.1 hI.out.s HH.out.2.1 HH.out.2.2 hs3
          have hA3 := (HKa.out.kb HKp.out hI.out.s).step hs3 (by simp)
          have HZ := Lib.hid (And.intro hK3.more hA3)
          clear hs3 hK3 hA3 y3 y4
          go_wp2_with fail
          refine Met.intro ?_
          refine h1 _ _ ?_
          unfold SwRel
          (repeat apply Exists.intro)
          exact ⟨⟨u, rfl, HS.out.ul.1, ⟨_, _, _, HZ.out⟩⟩, rfl⟩
end Go.Proofs.Ytbainekfbonbjaa
