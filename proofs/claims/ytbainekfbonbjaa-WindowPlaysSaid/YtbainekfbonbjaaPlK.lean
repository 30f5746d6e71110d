/- WindowPlays: its switch, as a piece of code by itself: the frame, what is kept, a put. Printed by wip/tools/genPl.py. No statement is proved here; nothing is assumed. -/
import Derived.Test.YtbainekfbonbjaaPlJ
import Derived.Deep.CutBlock
namespace Go.Proofs.Ytbainekfbonbjaa
open Go.RowKit Go.Shelf
set_option linter.unusedVariables false
set_option linter.unusedSimpArgs false
attribute [local go_sem] Oper.semAt_some

/-- The blocks of a number in a piece of code. -/
def blksP (n : Nat) : Code → List Code
  | .loop c => blksP n c
  | .seq a b => blksP n a ++ blksP n b
  | .block k c => (if k == n then [.block k c] else []) ++ blksP n c
  | .scope c => blksP n c
  | .cond _ a b => blksP n a ++ blksP n b
  | _ => []
noncomputable def blkP (n : Nat) : Code := ((Try.f8.body.map (blksP n)).getD []).headD .skip
/-- What the switch leaves. -/
def PwP (w : World) (br rs lim az zz j gi m ci : Nat) (V : Nat → Nat → Value) (s9 : Value) (wc : World) : Prop :=
  ∃ b1 : Nat, s9 = .pointer (some ⟨b1, 0, none⟩) ∧ Hid (∃ sp bm u M g sv E, PlAt w b1 sp bm br rs u lim az zz (j + 1) M g sv E (.slice (some ⟨gi, 0, none⟩) m ci) m V wc)
/-- What the switch is entered with. -/
structure PwAt (w wa : World) (b sp bm br rs u lim az zz j gi m ci b14 n2 n3 c2 ack mask : Nat) (V : Nat → Nat → Value) (q2 : Option Addr) (xs : List Nat) (a t : Int) (M : Ents) (g : Kept6) (sv : Value) (E : List En4) : Prop where
  kp : PlAt w b sp bm br rs u lim az zz j M g sv E (.slice (some ⟨gi, 0, none⟩) m ci) m V wa
  o : wa.heap[b14]? = some (.cells #[.int .i64 a, .slice q2 n3 c2, .int .i64 t, .int .u32 (ack : Int), .int .u32 (mask : Int)] 73)
  e3 : n3 = min n2 300
  e2 : n2 = xs.length
  xb : ∀ x ∈ xs, x < 256
  rd : Reads w (.slice q2 n2 c2) (u8s xs)
  qn : q2 = none → c2 = 0
  cb : n2 ≤ c2 ∧ c2 ≤ maxLen
  am : ack < 4294967296 ∧ mask < 4294967296
  jm : j < 50
set_option maxRecDepth 100000 in
/-- The frame that it leaves. -/
def PwRel (l0 l1 l2 l3 l4 l5 l6 l7 l10 l11 l12 l13 l14 l26 l27 l28 l29 l30 l31 l32 l33 l34 l35 l36 l37 l38 l39 l40 l41 l42 l43 l44 l45 l46 l47 l48 l49 l50 l51 l52 l53 l54 l55 l56 l57 l58 l59 l60 l61 l62 l219 l220 l221 l222 l223 l224 l225 l226 l227 l228 l229 l230 l231 l232 l233 l234 l235 l236 l237 l238 l239 l240 l241 l242 l243 l244 l245 l246 l247 l248 l249 l250 l251 l252 l253 l254 l255 l256 l257 l258 l259 l260 l261 l262 l263 l264 l265 l266 l267 l268 l269 l270 l271 l272 l273 l274 l275 l276 l277 l278 l279 l280 l281 l282 l283 l284 l285 l286 l287 : Value) (R : Value → World → Prop) (a' : Act) (w' : World) : Prop :=
  ∃ u8 u9 u15 u16 u17 u18 u19 u20 u21 u22 u23 u24 u25 u63 u64 u65 u66 u67 u68 u69 u70 u71 u72 u73 u74 u75 u76 u77 u78 u79 u80 u81 u82 u83 u84 u85 u86 u87 u88 u89 u90 u91 u92 u93 u94 u95 u96 u97 u98 u99 u100 u101 u102 u103 u104 u105 u106 u107 u108 u109 u110 u111 u112 u113 u114 u115 u116 u117 u118 u119 u120 u121 u122 u123 u124 u125 u126 u127 u128 u129 u130 u131 u132 u133 u134 u135 u136 u137 u138 u139 u140 u141 u142 u143 u144 u145 u146 u147 u148 u149 u150 u151 u152 u153 u154 u155 u156 u157 u158 u159 u160 u161 u162 u163 u164 u165 u166 u167 u168 u169 u170 u171 u172 u173 u174 u175 u176 u177 u178 u179 u180 u181 u182 u183 u184 u185 u186 u187 u188 u189 u190 u191 u192 u193 u194 u195 u196 u197 u198 u199 u200 u201 u202 u203 u204 u205 u206 u207 u208 u209 u210 u211 u212 u213 u214 u215 u216 u217 u218 : Value, R u9 w' ∧ a' = ⟨#[l0, l1, l2, l3, l4, l5, l6, l7, u8, u9, l10, l11, l12, l13, l14, u15, u16, u17, u18, u19, u20, u21, u22, u23, u24, u25, l26, l27, l28, l29, l30, l31, l32, l33, l34, l35, l36, l37, l38, l39, l40, l41, l42, l43, l44, l45, l46, l47, l48, l49, l50, l51, l52, l53, l54, l55, l56, l57, l58, l59, l60, l61, l62, u63, u64, u65, u66, u67, u68, u69, u70, u71, u72, u73, u74, u75, u76, u77, u78, u79, u80, u81, u82, u83, u84, u85, u86, u87, u88, u89, u90, u91, u92, u93, u94, u95, u96, u97, u98, u99, u100, u101, u102, u103, u104, u105, u106, u107, u108, u109, u110, u111, u112, u113, u114, u115, u116, u117, u118, u119, u120, u121, u122, u123, u124, u125, u126, u127, u128, u129, u130, u131, u132, u133, u134, u135, u136, u137, u138, u139, u140, u141, u142, u143, u144, u145, u146, u147, u148, u149, u150, u151, u152, u153, u154, u155, u156, u157, u158, u159, u160, u161, u162, u163, u164, u165, u166, u167, u168, u169, u170, u171, u172, u173, u174, u175, u176, u177, u178, u179, u180, u181, u182, u183, u184, u185, u186, u187, u188, u189, u190, u191, u192, u193, u194, u195, u196, u197, u198, u199, u200, u201, u202, u203, u204, u205, u206, u207, u208, u209, u210, u211, u212, u213, u214, u215, u216, u217, u218, l219, l220, l221, l222, l223, l224, l225, l226, l227, l228, l229, l230, l231, l232, l233, l234, l235, l236, l237, l238, l239, l240, l241, l242, l243, l244, l245, l246, l247, l248, l249, l250, l251, l252, l253, l254, l255, l256, l257, l258, l259, l260, l261, l262, l263, l264, l265, l266, l267, l268, l269, l270, l271, l272, l273, l274, l275, l276, l277, l278, l279, l280, l281, l282, l283, l284, l285, l286, l287], []⟩
set_option maxRecDepth 100000 in
set_option maxHeartbeats 16000000 in
/-- A put. -/
theorem plays_put {l0 l1 l2 l3 l4 l5 l6 l7 l8 l10 l12 l13 l15 l16 l17 l18 l19 l20 l21 l22 l23 l24 l25 l26 l27 l28 l29 l30 l31 l32 l33 l34 l35 l36 l37 l38 l39 l40 l41 l42 l43 l44 l45 l46 l47 l48 l49 l50 l51 l52 l53 l54 l55 l56 l57 l58 l59 l60 l61 l63 l64 l65 l66 l67 l68 l69 l70 l71 l72 l73 l74 l75 l76 l77 l78 l79 l80 l81 l82 l83 l84 l85 l86 l87 l88 l89 l90 l91 l92 l93 l94 l95 l96 l97 l98 l99 l100 l101 l102 l103 l104 l105 l106 l107 l108 l109 l110 l111 l112 l113 l114 l115 l116 l117 l118 l119 l120 l121 l122 l123 l124 l125 l126 l127 l128 l129 l130 l131 l132 l133 l134 l135 l136 l137 l138 l139 l140 l141 l142 l143 l144 l145 l146 l147 l148 l149 l150 l151 l152 l153 l154 l155 l156 l157 l158 l159 l160 l161 l162 l163 l164 l165 l166 l167 l168 l169 l170 l171 l172 l173 l174 l175 l176 l177 l178 l179 l180 l181 l182 l183 l184 l185 l186 l187 l188 l189 l190 l191 l192 l193 l194 l195 l196 l197 l198 l199 l200 l201 l202 l203 l204 l205 l206 l207 l208 l209 l210 l211 l212 l213 l214 l215 l216 l217 l218 l219 l220 l221 l222 l223 l224 l225 l226 l227 l228 l229 l230 l231 l232 l233 l234 l235 l236 l237 l238 l239 l240 l241 l242 l243 l244 l245 l246 l247 l248 l249 l250 l251 l252 l253 l254 l255 l256 l257 l258 l259 l260 l261 l262 l263 l264 l265 l266 l267 l268 l269 l270 l271 l272 l273 l274 l275 l276 l277 l278 l279 l280 l281 l282 l283 l284 l285 l286 l287 : Value}
    {J K' : Act → World → Prop} {Q' : Exit → Act → World → Prop} {w wa : World} {b sp bm br rs u lim az zz j gi m ci b14 n2 n3 c2 ack mask : Nat} {V : Nat → Nat → Value} {q2 : Option Addr} {xs : List Nat} {a t : Int} {M : Ents} {g : Kept6} {sv : Value} {E : List En4}
    (h1 : ∀ a' w', PwRel l0 l1 l2 l3 l4 l5 l6 l7 l10 (.pointer (some ⟨br, 0, none⟩)) l12 l13 (.pointer (some ⟨b14, 0, none⟩)) l26 l27 l28 l29 l30 l31 l32 l33 l34 l35 l36 l37 l38 l39 l40 l41 l42 l43 l44 l45 l46 l47 l48 l49 l50 l51 l52 l53 l54 l55 l56 l57 l58 l59 l60 l61 (.int .i64 a) l219 l220 l221 l222 l223 l224 l225 l226 l227 l228 l229 l230 l231 l232 l233 l234 l235 l236 l237 l238 l239 l240 l241 l242 l243 l244 l245 l246 l247 l248 l249 l250 l251 l252 l253 l254 l255 l256 l257 l258 l259 l260 l261 l262 l263 l264 l265 l266 l267 l268 l269 l270 l271 l272 l273 l274 l275 l276 l277 l278 l279 l280 l281 l282 l283 l284 l285 l286 l287 (PwP w br rs lim az zz j gi m ci V) a' w' → J a' w') (h2 : ∀ a' w', Met J a' w' → K' a' w')
    (HS : Hid (PwAt w wa b sp bm br rs u lim az zz j gi m ci b14 n2 n3 c2 ack mask V q2 xs a t M g sv E)) (hput : a = 0 ∨ a = 1 ∨ a = 2 ∨ a = 3) :
    (blkP 2).wp Try.prog (Exit.then K' Q') ⟨#[l0, l1, l2, l3, l4, l5, l6, l7, l8, .pointer (some ⟨b, 0, none⟩), l10, .pointer (some ⟨br, 0, none⟩), l12, l13, .pointer (some ⟨b14, 0, none⟩), l15, l16, l17, l18, l19, l20, l21, l22, l23, l24, l25, l26, l27, l28, l29, l30, l31, l32, l33, l34, l35, l36, l37, l38, l39, l40, l41, l42, l43, l44, l45, l46, l47, l48, l49, l50, l51, l52, l53, l54, l55, l56, l57, l58, l59, l60, l61, .int .i64 a, l63, l64, l65, l66, l67, l68, l69, l70, l71, l72, l73, l74, l75, l76, l77, l78, l79, l80, l81, l82, l83, l84, l85, l86, l87, l88, l89, l90, l91, l92, l93, l94, l95, l96, l97, l98, l99, l100, l101, l102, l103, l104, l105, l106, l107, l108, l109, l110, l111, l112, l113, l114, l115, l116, l117, l118, l119, l120, l121, l122, l123, l124, l125, l126, l127, l128, l129, l130, l131, l132, l133, l134, l135, l136, l137, l138, l139, l140, l141, l142, l143, l144, l145, l146, l147, l148, l149, l150, l151, l152, l153, l154, l155, l156, l157, l158, l159, l160, l161, l162, l163, l164, l165, l166, l167, l168, l169, l170, l171, l172, l173, l174, l175, l176, l177, l178, l179, l180, l181, l182, l183, l184, l185, l186, l187, l188, l189, l190, l191, l192, l193, l194, l195, l196, l197, l198, l199, l200, l201, l202, l203, l204, l205, l206, l207, l208, l209, l210, l211, l212, l213, l214, l215, l216, l217, l218, l219, l220, l221, l222, l223, l224, l225, l226, l227, l228, l229, l230, l231, l232, l233, l234, l235, l236, l237, l238, l239, l240, l241, l242, l243, l244, l245, l246, l247, l248, l249, l250, l251, l252, l253, l254, l255, l256, l257, l258, l259, l260, l261, l262, l263, l264, l265, l266, l267, l268, l269, l270, l271, l272, l273, l274, l275, l276, l277, l278, l279, l280, l281, l282, l283, l284, l285, l286, l287], []⟩ wa := by
  have HKp := Lib.hid HS.out.kp
  have HO := Lib.hid HS.out.o
  have HSS := Lib.hid HS.out
  conv => arg 2; whnf
  go_upto_if 63 with fail
  go_cut [63] from 63 to 218 (fun s1 wc => s1 = .bool true ∧ wc = wa)
  case first =>
    clear HS HKp HO HSS 
    rcases hput with rfl | rfl | rfl | rfl
    all_goals
      go_wp2_with fail
      go_meet
      case rel => exact ⟨rfl, rfl⟩
  case rest =>
    obtain ⟨rfl, hw⟩ := hcut
    subst wc
    clear hput
    have hnc3 : n3 ≤ c2 := by have := HS.out.e3; have := HS.out.cb; omega
    have hcm2 : (c2 : Int) ≤ 9223372036854775807 := by have := HS.out.cb; unfold maxLen at this; omega
    obtain ⟨p, hp⟩ : ∃ p, p = xs.take n3 := ⟨_, rfl⟩
    have hpl : n3 = p.length := by rw [hp, List.length_take, ← HS.out.e2]; have := HS.out.e3; omega
    have hpb : ∀ x ∈ p, x < 256 := fun x hx => HS.out.xb x (List.mem_of_mem_take (by rw [← hp]; exact hx))
    have hrd : Reads w (.slice q2 n3 c2) (u8s p) := by
      have := HS.out.rd.take n3 (by have := HS.out.e3; omega) HS.out.qn
      rw [hp]
      simpa [u8s, List.map_take] using this
    have hn300 : n3 ≤ 300 := by have := HS.out.e3; omega
    obtain ⟨own, w1, hrun, hown, hs1⟩ := append_nilP wa q2 n3 c2 (u8s p) (hrd.same HKp.out.st) (u8s_one p) (by rw [u8s_length]; omega)
    obtain ⟨qo, co, rfl, hco, hcmo⟩ := hown.form
    rw [u8s_length, ← hpl] at hco hrun hown
    have hp1 := HKp.out.same hs1
    obtain ⟨nn, ff, P, c47, c48⟩ := hp1.put hpl hpb hown.reads hrd t
    have o1 := obj_step HO.out hs1 (by simp)
    have y1 := cells_cell (i := 1) HO.out rfl
    have z2 := cells_cell (i := 2) o1 rfl
    have hcoi : (co : Int) ≤ 9223372036854775807 := by unfold maxLen at hcmo; omega
    have H47 := Lib.hid c47
    have H48 := Lib.hid c48
    have HRun := Lib.hid hrun
    have HQ := Lib.hid (And.intro hown (And.intro hp1 (And.intro o1 (And.intro hpl hs1))))
    clear hown hp1 o1 hpl hs1 c47 c48 hrun hrd hpb hp hcmo HS HSS
    go_wp2_with (at_builtin; refine wpList_append_runP rfl _ _ 71 rfl _ _ rfl rfl HRun.out ?_)
    refine H47.out.mono ?_
    clear H47 HRun y1 z2
    rintro e w2 ⟨rfl, hP⟩
    obtain ⟨hT1, c48⟩ := H48.out w2 hP
    have o2 := hT1.obj HQ.out.2.2.1 (tameO_cells (by decide))
    have x1 := cells_cell (i := 1) o2 rfl
    have x2 := cells_cell (i := 2) o2 rfl
    have H48b := Lib.hid (And.intro c48 hT1)
    clear H48 hP hT1 c48 o2
    go_wp2_with fail
    refine H48b.out.1.mono ?_
    clear x1 x2
    rintro e w3 ⟨rfl, hE, hT2⟩
    have HE := Lib.hid (show ∃ u' M' g' sv' E', PlAt w b sp bm br rs u' lim az zz j M' g' sv' E' (.slice (some ⟨gi, 0, none⟩) m ci) m V w3 ∧ OwnAt wa.heap.size w3 5 (.slice qo n3 co) (u8s p) ∧ (∀ go, (Value.slice qo n3 co).ownBlock = some go → wa.heap.size ≤ go ∧ (∀ q ∈ M', payB q.2 ≠ some go) ∧ ∀ e ∈ E', e.2.1.ownBlock ≠ some go) from by
      obtain ⟨u', M', g', sv', E', r1, r2, r3, r4⟩ := hE
      refine ⟨u', M', g', sv', E', r1, (HQ.out.1.tame H48b.out.2).tame hT2, fun go hgo => ?_⟩
      obtain ⟨b1, b2, _⟩ := HQ.out.1.block hgo
      refine ⟨b1, fun q hq e => ?_, fun e he e2 => ?_⟩
      · rcases r3 q hq with ⟨q0, h3, h4⟩ | h3
        · have := HKp.out.lowM q0 h3 go (by rw [← h4]; exact e)
          omega
        · have := h3 go e; omega
      · rcases r4 e he with ⟨e0, h3, h4⟩ | h3
        · have := HKp.out.lowE e0 h3 go (by rw [← h4]; exact e2)
          omega
        · have := h3 go e2; omega)
    have HL := Lib.hid (And.intro (show wa.heap.size ≤ wa.heap.size from Nat.le_refl _) (show w.heap.size ≤ wa.heap.size from HKp.out.st.size))
    clear hE hT2 H48b HKp HO
    go_wp2_with fail
    obtain ⟨u', M', g', sv', E', hPl, hOw, hGo⟩ := HE.out
    have HG := Lib.hid hGo
    have H0 := Lib.hid (And.intro hPl hOw)
    have HP0 := Lib.hid (show (u8s p).length = n3 by rw [u8s_length]; exact HQ.out.2.2.2.1.symm)
    clear hPl hOw hGo HE HQ
    go_loopw [20] (fun i wr => ∃ k : Nat, k ≤ n3 ∧ i = .int .i64 (k : Int) ∧ Hid (PlAt w b sp bm br rs u' lim az zz j M' g' sv' E' (.slice (some ⟨gi, 0, none⟩) m ci) m V wr ∧ ∃ vals, OwnAt wa.heap.size wr 5 (.slice qo n3 co) vals ∧ allU8 vals ∧ vals.length = n3)) (fun i _ => n3 - (intOf i).toNat)
    case atStart => exact ⟨0, by omega, rfl, H0.out.1, _, H0.out.2, allU8_u8s p, HP0.out⟩
    case round =>
      clear H0
      obtain ⟨k, hk, rfl, hI⟩ := hrel
      by_cases hlt : k < n3
      · have hki : (k : Int) < (n3 : Int) := by omega
        obtain ⟨hPl, vals, hOw, hU, hvl⟩ := hI.out
        obtain ⟨_, go, off, yv, cur, rfl, hy, kc, kf, ko, klo, kt⟩ := hOw.turn (i := k) (by omega)
        obtain ⟨yi, rfl⟩ := hU _ (List.mem_of_getElem? hy)
        obtain ⟨g1, g2, g3⟩ := HG.out go rfl
        have HK := Lib.hid (And.intro hPl (And.intro hU (And.intro hvl (And.intro ko (And.intro kt (And.intro g1 (And.intro g2 g3)))))))
        clear hI hPl hOw hU hvl hy ko klo kt g1 g2 g3
        go_wp2_with fail
        go_roundw
        case rel =>
          refine ⟨k + 1, by omega, by go_num, ?_⟩
          obtain ⟨hPl, hU, hvl, ko, kt, g1, g2, g3⟩ := HK.out
          obtain ⟨k1, k2⟩ := kt (.int .u8 (bits .xor .u8 yi 255))
          exact ⟨hPl.poke k2 (by have := HL.out.2; omega) ko g2 g3, _, k1, hU.set _ _, by rw [List.length_set]; exact hvl⟩
        case measure => simp [intOf]; omega
      · obtain rfl : k = n3 := by omega
        have HZ := Lib.hid hI.out.1
        clear hI hlt
        go_wp2_with fail
        refine Met.intro ?_
        refine h1 _ _ ?_
        unfold PwRel
        (repeat apply Exists.intro)
        exact ⟨⟨b, rfl, ⟨_, _, _, _, _, _, _, HZ.out.more⟩⟩, rfl⟩
set_option maxRecDepth 100000 in
set_option maxHeartbeats 16000000 in
/-- Another call: nothing. -/
theorem plays_other {l0 l1 l2 l3 l4 l5 l6 l7 l8 l10 l12 l13 l15 l16 l17 l18 l19 l20 l21 l22 l23 l24 l25 l26 l27 l28 l29 l30 l31 l32 l33 l34 l35 l36 l37 l38 l39 l40 l41 l42 l43 l44 l45 l46 l47 l48 l49 l50 l51 l52 l53 l54 l55 l56 l57 l58 l59 l60 l61 l63 l64 l65 l66 l67 l68 l69 l70 l71 l72 l73 l74 l75 l76 l77 l78 l79 l80 l81 l82 l83 l84 l85 l86 l87 l88 l89 l90 l91 l92 l93 l94 l95 l96 l97 l98 l99 l100 l101 l102 l103 l104 l105 l106 l107 l108 l109 l110 l111 l112 l113 l114 l115 l116 l117 l118 l119 l120 l121 l122 l123 l124 l125 l126 l127 l128 l129 l130 l131 l132 l133 l134 l135 l136 l137 l138 l139 l140 l141 l142 l143 l144 l145 l146 l147 l148 l149 l150 l151 l152 l153 l154 l155 l156 l157 l158 l159 l160 l161 l162 l163 l164 l165 l166 l167 l168 l169 l170 l171 l172 l173 l174 l175 l176 l177 l178 l179 l180 l181 l182 l183 l184 l185 l186 l187 l188 l189 l190 l191 l192 l193 l194 l195 l196 l197 l198 l199 l200 l201 l202 l203 l204 l205 l206 l207 l208 l209 l210 l211 l212 l213 l214 l215 l216 l217 l218 l219 l220 l221 l222 l223 l224 l225 l226 l227 l228 l229 l230 l231 l232 l233 l234 l235 l236 l237 l238 l239 l240 l241 l242 l243 l244 l245 l246 l247 l248 l249 l250 l251 l252 l253 l254 l255 l256 l257 l258 l259 l260 l261 l262 l263 l264 l265 l266 l267 l268 l269 l270 l271 l272 l273 l274 l275 l276 l277 l278 l279 l280 l281 l282 l283 l284 l285 l286 l287 : Value}
    {J K' : Act → World → Prop} {Q' : Exit → Act → World → Prop} {w wa : World} {b sp bm br rs u lim az zz j gi m ci b14 n2 n3 c2 ack mask : Nat} {V : Nat → Nat → Value} {q2 : Option Addr} {xs : List Nat} {a t : Int} {M : Ents} {g : Kept6} {sv : Value} {E : List En4}
    (h1 : ∀ a' w', PwRel l0 l1 l2 l3 l4 l5 l6 l7 l10 (.pointer (some ⟨br, 0, none⟩)) l12 l13 (.pointer (some ⟨b14, 0, none⟩)) l26 l27 l28 l29 l30 l31 l32 l33 l34 l35 l36 l37 l38 l39 l40 l41 l42 l43 l44 l45 l46 l47 l48 l49 l50 l51 l52 l53 l54 l55 l56 l57 l58 l59 l60 l61 (.int .i64 a) l219 l220 l221 l222 l223 l224 l225 l226 l227 l228 l229 l230 l231 l232 l233 l234 l235 l236 l237 l238 l239 l240 l241 l242 l243 l244 l245 l246 l247 l248 l249 l250 l251 l252 l253 l254 l255 l256 l257 l258 l259 l260 l261 l262 l263 l264 l265 l266 l267 l268 l269 l270 l271 l272 l273 l274 l275 l276 l277 l278 l279 l280 l281 l282 l283 l284 l285 l286 l287 (PwP w br rs lim az zz j gi m ci V) a' w' → J a' w') (h2 : ∀ a' w', Met J a' w' → K' a' w')
    (HS : Hid (PwAt w wa b sp bm br rs u lim az zz j gi m ci b14 n2 n3 c2 ack mask V q2 xs a t M g sv E)) (hno : a ≠ 0 ∧ a ≠ 1 ∧ a ≠ 2 ∧ a ≠ 3 ∧ a ≠ 4 ∧ a ≠ 5 ∧ a ≠ 6 ∧ a ≠ 7 ∧ a ≠ 8) :
    (blkP 2).wp Try.prog (Exit.then K' Q') ⟨#[l0, l1, l2, l3, l4, l5, l6, l7, l8, .pointer (some ⟨b, 0, none⟩), l10, .pointer (some ⟨br, 0, none⟩), l12, l13, .pointer (some ⟨b14, 0, none⟩), l15, l16, l17, l18, l19, l20, l21, l22, l23, l24, l25, l26, l27, l28, l29, l30, l31, l32, l33, l34, l35, l36, l37, l38, l39, l40, l41, l42, l43, l44, l45, l46, l47, l48, l49, l50, l51, l52, l53, l54, l55, l56, l57, l58, l59, l60, l61, .int .i64 a, l63, l64, l65, l66, l67, l68, l69, l70, l71, l72, l73, l74, l75, l76, l77, l78, l79, l80, l81, l82, l83, l84, l85, l86, l87, l88, l89, l90, l91, l92, l93, l94, l95, l96, l97, l98, l99, l100, l101, l102, l103, l104, l105, l106, l107, l108, l109, l110, l111, l112, l113, l114, l115, l116, l117, l118, l119, l120, l121, l122, l123, l124, l125, l126, l127, l128, l129, l130, l131, l132, l133, l134, l135, l136, l137, l138, l139, l140, l141, l142, l143, l144, l145, l146, l147, l148, l149, l150, l151, l152, l153, l154, l155, l156, l157, l158, l159, l160, l161, l162, l163, l164, l165, l166, l167, l168, l169, l170, l171, l172, l173, l174, l175, l176, l177, l178, l179, l180, l181, l182, l183, l184, l185, l186, l187, l188, l189, l190, l191, l192, l193, l194, l195, l196, l197, l198, l199, l200, l201, l202, l203, l204, l205, l206, l207, l208, l209, l210, l211, l212, l213, l214, l215, l216, l217, l218, l219, l220, l221, l222, l223, l224, l225, l226, l227, l228, l229, l230, l231, l232, l233, l234, l235, l236, l237, l238, l239, l240, l241, l242, l243, l244, l245, l246, l247, l248, l249, l250, l251, l252, l253, l254, l255, l256, l257, l258, l259, l260, l261, l262, l263, l264, l265, l266, l267, l268, l269, l270, l271, l272, l273, l274, l275, l276, l277, l278, l279, l280, l281, l282, l283, l284, l285, l286, l287], []⟩ wa := by
  have t0 : (a == 0) = false := by simp; omega
  have t1 : (a == 1) = false := by simp; omega
  have t2 : (a == 2) = false := by simp; omega
  have t3 : (a == 3) = false := by simp; omega
  have t4 : (a == 4) = false := by simp; omega
  have t5 : (a == 5) = false := by simp; omega
  have t6 : (a == 6) = false := by simp; omega
  have t7 : (a == 7) = false := by simp; omega
  have t8 : (a == 8) = false := by simp; omega
  have HZ := Lib.hid HS.out.kp.more
  clear hno
  conv => arg 2; whnf
  go_wp2_with fail
  refine Met.intro ?_
  refine h1 _ _ ?_
  unfold PwRel
  (repeat apply Exists.intro)
  exact ⟨⟨b, rfl, ⟨_, _, _, _, _, _, _, HZ.out⟩⟩, rfl⟩
end Go.Proofs.Ytbainekfbonbjaa
