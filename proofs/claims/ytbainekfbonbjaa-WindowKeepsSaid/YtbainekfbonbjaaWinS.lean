/- WindowKeeps: its switch, as a piece of code by itself: the frame, what is kept, a put. Printed by wip/tools/genSw.py. No statement is proved here; nothing is assumed. -/
import Derived.Test.YtbainekfbonbjaaWinQ
import Derived.Deep.CutBlock
namespace Go.Proofs.Ytbainekfbonbjaa
open Go.RowKit Go.Shelf
set_option linter.unusedVariables false
set_option linter.unusedSimpArgs false
attribute [local go_sem] Oper.semAt_some

/-- The blocks of a number in a piece of code. -/
def blksOf (n : Nat) : Code → List Code
  | .loop c => blksOf n c
  | .seq a b => blksOf n a ++ blksOf n b
  | .block k c => (if k == n then [.block k c] else []) ++ blksOf n c
  | .scope c => blksOf n c
  | .cond _ a b => blksOf n a ++ blksOf n b
  | _ => []
noncomputable def blkN (n : Nat) : Code := ((Try.f16.body.map (blksOf n)).getD []).headD .skip
theorem wp_in {P : Program} {s : Code} {a : Act} {w : World} {R : Act → World → Prop} {Q : Exit → Act → World → Prop}
    (h : ∀ (J K' : Act → World → Prop) (Q' : Exit → Act → World → Prop), (∀ a' w', R a' w' → J a' w') → (∀ a' w', Met J a' w' → K' a' w') → s.wp P (Exit.then K' Q') a w)
    (hQ : ∀ a' w', R a' w' → Q .normal a' w') : s.wp P Q a w := by
  refine wp_mono (h R R (fun _ _ _ => False) (fun _ _ q => q) (fun _ _ q => q)) ?_
  intro e a' w' hq
  cases e with
  | normal => exact hQ _ _ hq
  | exit id => exact hq.elim
  | goto l => exact hq.elim
  | ret => exact hq.elim
  | panic ch => exact hq.elim
  | outgrown => exact hq.elim
/-- The acts stay where a payload is put into both. -/
theorem keptA_put {w W W2 W3 : World} {b sp bm kb u lim nw c B k : Nat} {M Mk Mk' : Ents} {g : Kept6} {v : Value} {V : Nat → Nat → Value} (h : KeptA B W v k V) (hK : KpAt w b sp bm kb u lim nw c M Mk g W)
    (g3 : Step [sp, bm] W W2) (hk : MapV W2 kb Mk') (hs3 : Step [kb] W2 W3) : KeptA B W3 v k V := by
  refine (h.step g3 (fun i hi cur hc => ?_)).step hs3 (fun i hi cur hc => ?_)
  · simp at hi
    rcases hi with rfl | rfl
    · have : W.heap[i]? = some (spaceObj 92 u lim) := hK.win.s
      rw [this] at hc; unfold spaceObj at hc; cases hc
    · obtain ⟨es, cl, hb⟩ := hK.win.m.block
      rw [hb] at hc; cases hc
  · simp at hi
    subst hi
    obtain ⟨es, cl, hb⟩ := hk.block
    rw [hb] at hc; cases hc
/-- What the switch leaves. -/
def SwP (w : World) (b sp bm kb lim nw1 j gi m60 ci : Nat) (V : Nat → Nat → Value) (s8 : Value) (wc : World) : Prop :=
  ∃ u1 : Nat, s8 = .int .u32 (u1 : Int) ∧ u1 ≤ lim ∧ Hid (∃ M' Mk' g', KpAt w b sp bm kb u1 lim nw1 (j + 1) M' Mk' g' wc ∧ KeptA w.heap.size wc (.slice (some ⟨gi, 0, none⟩) m60 ci) m60 V)
/-- What the switch is entered with. -/
structure SwAt (w wa : World) (b sp bm kb lim nw1 u j gi m60 ci b11 n2 n3 c2 ack mask y y1 : Nat) (V : Nat → Nat → Value) (q2 : Option Addr) (xs : List Nat) (a t : Int) (M Mk : Ents) (g : Kept6) : Prop where
  kp : KpAt w b sp bm kb u lim nw1 j M Mk g wa
  ka : KeptA w.heap.size wa (.slice (some ⟨gi, 0, none⟩) m60 ci) m60 V
  o : wa.heap[b11]? = some (.cells #[.int .i64 a, .slice q2 n3 c2, .int .i64 t, .int .u32 (ack : Int), .int .u32 (mask : Int)] 73)
  ul : u ≤ lim ∧ lim = 1 + y1 ∧ lim ≤ 50
  nw : nw1 ≤ 5000
  yy : (y : Int) % 50 = (y1 : Int) ∧ (y : Int).tmod 50 = (y1 : Int) ∧ (y1 : Int) < 50
  e3 : n3 = min n2 300
  e2 : n2 = xs.length
  xb : ∀ x ∈ xs, x < 256
  rd : Reads w (.slice q2 n2 c2) (u8s xs)
  qn : q2 = none → c2 = 0
  cb : n2 ≤ c2 ∧ c2 ≤ maxLen
  am : ack < 4294967296 ∧ mask < 4294967296
  jm : j < 60
set_option maxRecDepth 100000 in
/-- The frame that it leaves. -/
def SwRel (l0 l1 l2 l3 l5 l6 l7 l9 l10 l11 l26 l27 l28 l29 l30 l31 l32 l33 l34 l35 l36 l37 l38 l39 l40 l41 l42 l43 l44 l235 l236 l237 l238 l239 l240 l241 l242 l243 l244 l245 l246 l247 l248 l249 l250 l251 l252 l253 l254 l255 l256 l257 l258 l259 l260 l261 l262 l263 l264 l265 l266 l267 l268 l269 l270 l271 l272 l273 l274 l275 l276 l277 l278 l279 l280 l281 : Value) (R : Value → World → Prop) (a' : Act) (w' : World) : Prop :=
  ∃ u4 u8 u12 u13 u14 u15 u16 u17 u18 u19 u20 u21 u22 u23 u24 u25 u45 u46 u47 u48 u49 u50 u51 u52 u53 u54 u55 u56 u57 u58 u59 u60 u61 u62 u63 u64 u65 u66 u67 u68 u69 u70 u71 u72 u73 u74 u75 u76 u77 u78 u79 u80 u81 u82 u83 u84 u85 u86 u87 u88 u89 u90 u91 u92 u93 u94 u95 u96 u97 u98 u99 u100 u101 u102 u103 u104 u105 u106 u107 u108 u109 u110 u111 u112 u113 u114 u115 u116 u117 u118 u119 u120 u121 u122 u123 u124 u125 u126 u127 u128 u129 u130 u131 u132 u133 u134 u135 u136 u137 u138 u139 u140 u141 u142 u143 u144 u145 u146 u147 u148 u149 u150 u151 u152 u153 u154 u155 u156 u157 u158 u159 u160 u161 u162 u163 u164 u165 u166 u167 u168 u169 u170 u171 u172 u173 u174 u175 u176 u177 u178 u179 u180 u181 u182 u183 u184 u185 u186 u187 u188 u189 u190 u191 u192 u193 u194 u195 u196 u197 u198 u199 u200 u201 u202 u203 u204 u205 u206 u207 u208 u209 u210 u211 u212 u213 u214 u215 u216 u217 u218 u219 u220 u221 u222 u223 u224 u225 u226 u227 u228 u229 u230 u231 u232 u233 u234 : Value, R u8 w' ∧ a' = ⟨#[l0, l1, l2, l3, u4, l5, l6, l7, u8, l9, l10, l11, u12, u13, u14, u15, u16, u17, u18, u19, u20, u21, u22, u23, u24, u25, l26, l27, l28, l29, l30, l31, l32, l33, l34, l35, l36, l37, l38, l39, l40, l41, l42, l43, l44, u45, u46, u47, u48, u49, u50, u51, u52, u53, u54, u55, u56, u57, u58, u59, u60, u61, u62, u63, u64, u65, u66, u67, u68, u69, u70, u71, u72, u73, u74, u75, u76, u77, u78, u79, u80, u81, u82, u83, u84, u85, u86, u87, u88, u89, u90, u91, u92, u93, u94, u95, u96, u97, u98, u99, u100, u101, u102, u103, u104, u105, u106, u107, u108, u109, u110, u111, u112, u113, u114, u115, u116, u117, u118, u119, u120, u121, u122, u123, u124, u125, u126, u127, u128, u129, u130, u131, u132, u133, u134, u135, u136, u137, u138, u139, u140, u141, u142, u143, u144, u145, u146, u147, u148, u149, u150, u151, u152, u153, u154, u155, u156, u157, u158, u159, u160, u161, u162, u163, u164, u165, u166, u167, u168, u169, u170, u171, u172, u173, u174, u175, u176, u177, u178, u179, u180, u181, u182, u183, u184, u185, u186, u187, u188, u189, u190, u191, u192, u193, u194, u195, u196, u197, u198, u199, u200, u201, u202, u203, u204, u205, u206, u207, u208, u209, u210, u211, u212, u213, u214, u215, u216, u217, u218, u219, u220, u221, u222, u223, u224, u225, u226, u227, u228, u229, u230, u231, u232, u233, u234, l235, l236, l237, l238, l239, l240, l241, l242, l243, l244, l245, l246, l247, l248, l249, l250, l251, l252, l253, l254, l255, l256, l257, l258, l259, l260, l261, l262, l263, l264, l265, l266, l267, l268, l269, l270, l271, l272, l273, l274, l275, l276, l277, l278, l279, l280, l281], []⟩
set_option maxRecDepth 100000 in
set_option maxHeartbeats 16000000 in
/-- A put. -/
theorem keeps_put {l0 l2 l3 l4 l6 l10 l12 l13 l14 l15 l16 l17 l18 l19 l20 l21 l22 l23 l24 l25 l26 l27 l28 l29 l30 l31 l32 l33 l34 l35 l36 l37 l38 l39 l40 l41 l42 l43 l44 l45 l46 l47 l48 l49 l50 l51 l52 l53 l55 l56 l57 l58 l59 l60 l61 l62 l63 l64 l65 l66 l67 l68 l69 l70 l71 l72 l73 l74 l75 l76 l77 l78 l79 l80 l81 l82 l83 l84 l85 l86 l87 l88 l89 l90 l91 l92 l93 l94 l95 l96 l97 l98 l99 l100 l101 l102 l103 l104 l105 l106 l107 l108 l109 l110 l111 l112 l113 l114 l115 l116 l117 l118 l119 l120 l121 l122 l123 l124 l125 l126 l127 l128 l129 l130 l131 l132 l133 l134 l135 l136 l137 l138 l139 l140 l141 l142 l143 l144 l145 l146 l147 l148 l149 l150 l151 l152 l153 l154 l155 l156 l157 l158 l159 l160 l161 l162 l163 l164 l165 l166 l167 l168 l169 l170 l171 l172 l173 l174 l175 l176 l177 l178 l179 l180 l181 l182 l183 l184 l185 l186 l187 l188 l189 l190 l191 l192 l193 l194 l195 l196 l197 l198 l199 l200 l201 l202 l203 l204 l205 l206 l207 l208 l209 l210 l211 l212 l213 l214 l215 l216 l217 l218 l219 l220 l221 l222 l223 l224 l225 l226 l227 l228 l229 l230 l231 l232 l233 l234 l235 l236 l237 l238 l239 l240 l241 l242 l243 l244 l245 l246 l247 l248 l249 l250 l251 l252 l253 l254 l255 l256 l257 l258 l259 l260 l261 l262 l263 l264 l265 l266 l267 l268 l269 l270 l271 l272 l273 l274 l275 l276 l277 l278 l279 l280 l281 : Value}
    {J K' : Act → World → Prop} {Q' : Exit → Act → World → Prop} {w wa : World} {b sp bm kb lim nw1 u j gi m60 ci b11 n2 n3 c2 ack mask y y1 : Nat} {V : Nat → Nat → Value} {q2 : Option Addr} {xs : List Nat} {a t : Int} {M Mk : Ents} {g : Kept6}
    (h1 : ∀ a' w', SwRel l0 (.int .u8 (y : Int)) l2 l3 (.pointer (some ⟨b, 0, none⟩)) l6 (.map (some kb)) (.int .i64 (nw1 : Int)) l10 (.pointer (some ⟨b11, 0, none⟩)) l26 l27 l28 l29 l30 l31 l32 l33 l34 l35 l36 l37 l38 l39 l40 l41 l42 l43 l44 l235 l236 l237 l238 l239 l240 l241 l242 l243 l244 l245 l246 l247 l248 l249 l250 l251 l252 l253 l254 l255 l256 l257 l258 l259 l260 l261 l262 l263 l264 l265 l266 l267 l268 l269 l270 l271 l272 l273 l274 l275 l276 l277 l278 l279 l280 l281 (SwP w b sp bm kb lim nw1 j gi m60 ci V) a' w' → J a' w') (h2 : ∀ a' w', Met J a' w' → K' a' w')
    (HS : Hid (SwAt w wa b sp bm kb lim nw1 u j gi m60 ci b11 n2 n3 c2 ack mask y y1 V q2 xs a t M Mk g)) (hput : a = 0 ∨ a = 1 ∨ a = 2 ∨ a = 3) :
    (blkN 2).wp Try.prog (Exit.then K' Q') ⟨#[l0, .int .u8 (y : Int), l2, l3, l4, .pointer (some ⟨b, 0, none⟩), l6, .map (some kb), .int .u32 (u : Int), .int .i64 (nw1 : Int), l10, .pointer (some ⟨b11, 0, none⟩), l12, l13, l14, l15, l16, l17, l18, l19, l20, l21, l22, l23, l24, l25, l26, l27, l28, l29, l30, l31, l32, l33, l34, l35, l36, l37, l38, l39, l40, l41, l42, l43, l44, l45, l46, l47, l48, l49, l50, l51, l52, l53, .int .i64 a, l55, l56, l57, l58, l59, l60, l61, l62, l63, l64, l65, l66, l67, l68, l69, l70, l71, l72, l73, l74, l75, l76, l77, l78, l79, l80, l81, l82, l83, l84, l85, l86, l87, l88, l89, l90, l91, l92, l93, l94, l95, l96, l97, l98, l99, l100, l101, l102, l103, l104, l105, l106, l107, l108, l109, l110, l111, l112, l113, l114, l115, l116, l117, l118, l119, l120, l121, l122, l123, l124, l125, l126, l127, l128, l129, l130, l131, l132, l133, l134, l135, l136, l137, l138, l139, l140, l141, l142, l143, l144, l145, l146, l147, l148, l149, l150, l151, l152, l153, l154, l155, l156, l157, l158, l159, l160, l161, l162, l163, l164, l165, l166, l167, l168, l169, l170, l171, l172, l173, l174, l175, l176, l177, l178, l179, l180, l181, l182, l183, l184, l185, l186, l187, l188, l189, l190, l191, l192, l193, l194, l195, l196, l197, l198, l199, l200, l201, l202, l203, l204, l205, l206, l207, l208, l209, l210, l211, l212, l213, l214, l215, l216, l217, l218, l219, l220, l221, l222, l223, l224, l225, l226, l227, l228, l229, l230, l231, l232, l233, l234, l235, l236, l237, l238, l239, l240, l241, l242, l243, l244, l245, l246, l247, l248, l249, l250, l251, l252, l253, l254, l255, l256, l257, l258, l259, l260, l261, l262, l263, l264, l265, l266, l267, l268, l269, l270, l271, l272, l273, l274, l275, l276, l277, l278, l279, l280, l281], []⟩ wa := by
  have HKp := Lib.hid HS.out.kp
  have HKa := Lib.hid HS.out.ka
  have y0 := cells_cell (i := 0) HS.out.o rfl
  have y1' := cells_cell (i := 1) HS.out.o rfl
  obtain ⟨d1, d2, c1⟩ := HS.out.yy
  have hnc3 : n3 ≤ c2 := by have := HS.out.e3; have := HS.out.cb; omega
  have hcm2 : (c2 : Int) ≤ 9223372036854775807 := by have := HS.out.cb; unfold maxLen at this; omega
  conv => arg 2; whnf
  go_upto_if 55 with fail
  go_cut [54, 55] from 45 to 234 (fun s54 s55 wc => s54 = .int .i64 a ∧ s55 = .bool true ∧ wc = wa)
  case first =>
    clear HKp HKa HS y0 y1' d1 d2 c1
    rcases hput with rfl | rfl | rfl | rfl
    all_goals
      go_wp2_with fail
      go_meet
      case rel => exact ⟨rfl, rfl, rfl⟩
  case rest =>
    obtain ⟨rfl, rfl, hw⟩ := hcut
    cases hw.symm
    clear hput
    obtain ⟨n4, hn4⟩ : ∃ n4, n4 = min n3 256 := ⟨_, rfl⟩
    have m1 : min (n3 : Int) 256 = (n4 : Int) := by omega
    have hn43 : n4 ≤ n3 := by omega
    have hn4c : n4 ≤ c2 := by omega
    obtain ⟨P, hPe⟩ : ∃ P, P = xs.take n4 := ⟨_, rfl⟩
    have hPl : n4 = P.length := by have := HS.out.e3; have := HS.out.e2; rw [hPe, List.length_take]; omega
    have hPr : Reads w (.slice q2 n4 c2) (u8s P) := by
      have := HS.out.rd.take n4 (by have := HS.out.e3; omega) HS.out.qn
      rw [hPe]
      simpa [u8s, List.map_take] using this
    have hPb : ∀ x ∈ P, x < 256 := fun x hx' => HS.out.xb x (List.mem_of_mem_take (hPe ▸ hx'))
    have HPP := Lib.hid (And.intro hPl (And.intro hPr (And.intro hPb (show n4 ≤ 256 by omega))))
    have HPI := Lib.hid (show PutIs w u (.slice q2 n4 c2) (P, 0, nw1) from ⟨q2, n4, c2, rfl, hn4c, HS.out.cb.2, hPl, hPb, hPr⟩)
    have HN1 := Lib.hid HS.out.nw
    clear hn4 hPe hPl hPr hPb
    have hl16 := HKp.out.n
    by_cases hfull : M.length = 16
    · as_aux_lemma =>
        have HB := Lib.hid (put6_busy HKp.out.win q2 n4 c2 nw1 (by have := HN1.out; omega) HPP.out.2.2.2 (by omega))
        have hmk := HKp.out.m.len Try.underlying99
        rw [HKp.out.len] at hmk
        obtain ⟨ml', hml'⟩ : ∃ ml', ml' = M.length := ⟨_, rfl⟩
        rw [← hml'] at hmk
        have s16 : ((ml' : Int) == 16) = true := by simp; omega
        clear hml' hfull hl16
        go_wp2_with (go_at_call 47; refine HB.out.mono ?_; rintro e w' ⟨rfl, hw⟩; cases hw)
        refine Met.intro ?_
        refine h1 _ _ ?_
        unfold SwRel
        (repeat apply Exists.intro)
        exact ⟨⟨u, rfl, HS.out.ul.1, ⟨_, _, _, HKp.out.more, HKa.out⟩⟩, rfl⟩
    · by_cases hu : u = lim
      · as_aux_lemma =>
          have HFu := Lib.hid (put6_full HKp.out.win q2 n4 c2 nw1 (by have := HN1.out; omega) HPP.out.2.2.2 (by omega) hu)
          have su : ((u : Int) == 1 + (y1 : Int)) = true := by have := HS.out.ul.2.1; simp; omega
          have HMM := Lib.hid (And.intro hfull hl16)
          clear hfull hl16 hu
          go_wp2_with fail
          refine HFu.out.mono ?_
          rintro e w3 ⟨rfl, hs3⟩
          have hK3 := HKp.out.same hs3
          have HZ := Lib.hid (And.intro hK3.more (HKa.out.same hs3))
          have hmk := hK3.m.len Try.underlying99
          rw [hK3.len] at hmk
          obtain ⟨ml', hml'⟩ : ∃ ml', ml' = M.length := ⟨_, rfl⟩
          rw [← hml'] at hmk
          have s16 : ((ml' : Int) == 16) = false := by have := HMM.out; simp; omega
          clear hml' hK3 hs3
          go_wp2_with fail
          refine Met.intro ?_
          refine h1 _ _ ?_
          unfold SwRel
          (repeat apply Exists.intro)
          exact ⟨⟨u, rfl, HS.out.ul.1, ⟨_, _, _, HZ.out⟩⟩, rfl⟩
      · as_aux_lemma =>
          have hul : u < lim := by have := HS.out.ul.1; omega
          have hu32 : u < 4294967296 := by have := HS.out.ul.2.2; omega
          have HOk := Lib.hid (put6_ok HKp.out.win HKp.out.st.size q2 c2 nw1 P n4 HPP.out.1 HPP.out.2.2.1 (HPP.out.2.1.same HKp.out.st) (by have := HN1.out; omega) (by have := HPP.out.1; have := HPP.out.2.2.2; omega) (by omega) hul)
          obtain ⟨u1, hu1⟩ : ∃ u1, u1 = u + 1 := ⟨_, rfl⟩
          have wu : IntKind.u32.wrap ((u : Int) + 1) = (u1 : Int) := by have := HS.out.ul.2.2; rw [IntKind.wrap_u32]; omega
          have su : ((u : Int) == 1 + (y1 : Int)) = false := by have := HS.out.ul.2.1; simp; omega
          have HUL := Lib.hid (show u1 ≤ u + 1 ∧ u1 ≤ lim by omega)
          have HMM := Lib.hid (And.intro hfull (And.intro hl16 (And.intro hu32 hu1)))
          clear hfull hl16 hu hul hu32 hu1
          go_wp2_with fail
          refine HOk.out.mono ?_
          rintro e w3 ⟨rfl, M3, g1, g2, g3⟩
          have hk3 := HKp.out.m.keep g3 (by simp; exact ⟨HKp.out.kbs.2, HKp.out.ne⟩)
          have hl0 := hk3.len Try.underlying99
          rw [HKp.out.len] at hl0
          obtain ⟨ml0, hml0⟩ : ∃ ml0, ml0 = M.length := ⟨_, rfl⟩
          rw [← hml0] at hl0
          have s16 : ((ml0 : Int) == 16) = false := by have := HMM.out; simp; omega
          obtain ⟨W3, hupd, hm3, hs3⟩ := hk3.put Try.underlying99 (by have := HKp.out.len; have := HMM.out.2.1; omega) HMM.out.2.2.1 (.slice q2 n4 c2)
          have hK3 := HKp.out.put (by have := HMM.out; omega) g1 g2 g3 HPI.out hm3 hs3
          rw [← HMM.out.2.2.2] at hK3
          have hA3 := keptA_put (HKa.out) HKp.out g3 hk3 hs3
          have HZ := Lib.hid (And.intro hK3.more hA3)
          clear hK3 hA3 hs3 hm3 g1 g2 g3 hk3 hml0
          go_wp2_with fail
          refine Met.intro ?_
          refine h1 _ _ ?_
          unfold SwRel
          (repeat apply Exists.intro)
          exact ⟨⟨u1, rfl, HUL.out.2, ⟨_, _, _, HZ.out⟩⟩, rfl⟩
set_option maxRecDepth 100000 in
set_option maxHeartbeats 16000000 in
/-- Another call: nothing. -/
theorem keeps_other {l0 l2 l3 l4 l6 l10 l12 l13 l14 l15 l16 l17 l18 l19 l20 l21 l22 l23 l24 l25 l26 l27 l28 l29 l30 l31 l32 l33 l34 l35 l36 l37 l38 l39 l40 l41 l42 l43 l44 l45 l46 l47 l48 l49 l50 l51 l52 l53 l55 l56 l57 l58 l59 l60 l61 l62 l63 l64 l65 l66 l67 l68 l69 l70 l71 l72 l73 l74 l75 l76 l77 l78 l79 l80 l81 l82 l83 l84 l85 l86 l87 l88 l89 l90 l91 l92 l93 l94 l95 l96 l97 l98 l99 l100 l101 l102 l103 l104 l105 l106 l107 l108 l109 l110 l111 l112 l113 l114 l115 l116 l117 l118 l119 l120 l121 l122 l123 l124 l125 l126 l127 l128 l129 l130 l131 l132 l133 l134 l135 l136 l137 l138 l139 l140 l141 l142 l143 l144 l145 l146 l147 l148 l149 l150 l151 l152 l153 l154 l155 l156 l157 l158 l159 l160 l161 l162 l163 l164 l165 l166 l167 l168 l169 l170 l171 l172 l173 l174 l175 l176 l177 l178 l179 l180 l181 l182 l183 l184 l185 l186 l187 l188 l189 l190 l191 l192 l193 l194 l195 l196 l197 l198 l199 l200 l201 l202 l203 l204 l205 l206 l207 l208 l209 l210 l211 l212 l213 l214 l215 l216 l217 l218 l219 l220 l221 l222 l223 l224 l225 l226 l227 l228 l229 l230 l231 l232 l233 l234 l235 l236 l237 l238 l239 l240 l241 l242 l243 l244 l245 l246 l247 l248 l249 l250 l251 l252 l253 l254 l255 l256 l257 l258 l259 l260 l261 l262 l263 l264 l265 l266 l267 l268 l269 l270 l271 l272 l273 l274 l275 l276 l277 l278 l279 l280 l281 : Value}
    {J K' : Act → World → Prop} {Q' : Exit → Act → World → Prop} {w wa : World} {b sp bm kb lim nw1 u j gi m60 ci b11 n2 n3 c2 ack mask y y1 : Nat} {V : Nat → Nat → Value} {q2 : Option Addr} {xs : List Nat} {a t : Int} {M Mk : Ents} {g : Kept6}
    (h1 : ∀ a' w', SwRel l0 (.int .u8 (y : Int)) l2 l3 (.pointer (some ⟨b, 0, none⟩)) l6 (.map (some kb)) (.int .i64 (nw1 : Int)) l10 (.pointer (some ⟨b11, 0, none⟩)) l26 l27 l28 l29 l30 l31 l32 l33 l34 l35 l36 l37 l38 l39 l40 l41 l42 l43 l44 l235 l236 l237 l238 l239 l240 l241 l242 l243 l244 l245 l246 l247 l248 l249 l250 l251 l252 l253 l254 l255 l256 l257 l258 l259 l260 l261 l262 l263 l264 l265 l266 l267 l268 l269 l270 l271 l272 l273 l274 l275 l276 l277 l278 l279 l280 l281 (SwP w b sp bm kb lim nw1 j gi m60 ci V) a' w' → J a' w') (h2 : ∀ a' w', Met J a' w' → K' a' w')
    (HS : Hid (SwAt w wa b sp bm kb lim nw1 u j gi m60 ci b11 n2 n3 c2 ack mask y y1 V q2 xs a t M Mk g)) (hno : a ≠ 0 ∧ a ≠ 1 ∧ a ≠ 2 ∧ a ≠ 3 ∧ a ≠ 4 ∧ a ≠ 5 ∧ a ≠ 6 ∧ a ≠ 7) :
    (blkN 2).wp Try.prog (Exit.then K' Q') ⟨#[l0, .int .u8 (y : Int), l2, l3, l4, .pointer (some ⟨b, 0, none⟩), l6, .map (some kb), .int .u32 (u : Int), .int .i64 (nw1 : Int), l10, .pointer (some ⟨b11, 0, none⟩), l12, l13, l14, l15, l16, l17, l18, l19, l20, l21, l22, l23, l24, l25, l26, l27, l28, l29, l30, l31, l32, l33, l34, l35, l36, l37, l38, l39, l40, l41, l42, l43, l44, l45, l46, l47, l48, l49, l50, l51, l52, l53, .int .i64 a, l55, l56, l57, l58, l59, l60, l61, l62, l63, l64, l65, l66, l67, l68, l69, l70, l71, l72, l73, l74, l75, l76, l77, l78, l79, l80, l81, l82, l83, l84, l85, l86, l87, l88, l89, l90, l91, l92, l93, l94, l95, l96, l97, l98, l99, l100, l101, l102, l103, l104, l105, l106, l107, l108, l109, l110, l111, l112, l113, l114, l115, l116, l117, l118, l119, l120, l121, l122, l123, l124, l125, l126, l127, l128, l129, l130, l131, l132, l133, l134, l135, l136, l137, l138, l139, l140, l141, l142, l143, l144, l145, l146, l147, l148, l149, l150, l151, l152, l153, l154, l155, l156, l157, l158, l159, l160, l161, l162, l163, l164, l165, l166, l167, l168, l169, l170, l171, l172, l173, l174, l175, l176, l177, l178, l179, l180, l181, l182, l183, l184, l185, l186, l187, l188, l189, l190, l191, l192, l193, l194, l195, l196, l197, l198, l199, l200, l201, l202, l203, l204, l205, l206, l207, l208, l209, l210, l211, l212, l213, l214, l215, l216, l217, l218, l219, l220, l221, l222, l223, l224, l225, l226, l227, l228, l229, l230, l231, l232, l233, l234, l235, l236, l237, l238, l239, l240, l241, l242, l243, l244, l245, l246, l247, l248, l249, l250, l251, l252, l253, l254, l255, l256, l257, l258, l259, l260, l261, l262, l263, l264, l265, l266, l267, l268, l269, l270, l271, l272, l273, l274, l275, l276, l277, l278, l279, l280, l281], []⟩ wa := by
  have t0 : (a == 0) = false := by simp; omega
  have t1 : (a == 1) = false := by simp; omega
  have t2 : (a == 2) = false := by simp; omega
  have t3 : (a == 3) = false := by simp; omega
  have t4 : (a == 4) = false := by simp; omega
  have t5 : (a == 5) = false := by simp; omega
  have t6 : (a == 6) = false := by simp; omega
  have t7 : (a == 7) = false := by simp; omega
  have HZ := Lib.hid (And.intro HS.out.kp.more HS.out.ka)
  clear hno
  conv => arg 2; whnf
  go_wp2_with fail
  refine Met.intro ?_
  refine h1 _ _ ?_
  unfold SwRel
  (repeat apply Exists.intro)
  exact ⟨⟨u, rfl, HS.out.ul.1, ⟨_, _, _, HZ.out⟩⟩, rfl⟩
end Go.Proofs.Ytbainekfbonbjaa
