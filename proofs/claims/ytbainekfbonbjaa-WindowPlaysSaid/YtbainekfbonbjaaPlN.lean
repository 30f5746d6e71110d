/- WindowPlays: its switch at Ack, at a copy. Printed by wip/tools/genPlN.py. No statement is proved here; nothing is assumed. -/
import Derived.Test.YtbainekfbonbjaaPlK
namespace Go.Proofs.Ytbainekfbonbjaa
open Go.RowKit Go.Shelf
set_option linter.unusedVariables false
set_option linter.unusedSimpArgs false
attribute [local go_sem] Oper.semAt_some

theorem lit4_reads (w : World) (x y z v : Nat) (fr : Nat × Nat) : Reads (w.alloc (.cells #[.int .u8 (x : Int), .int .u8 (y : Int), .int .u8 (z : Int), .int .u8 (v : Int)] 5 fr)) (.slice (some ⟨w.heap.size, 0, none⟩) 4 4) (u8s [x, y, z, v]) := by
  refine .inr ⟨w.heap.size, 0, 4, rfl, by simp [u8s], by simp [maxLen], fun j hj => ?_⟩
  have hj4 : j < 4 := by simpa [u8s] using hj
  rw [Nat.zero_add]
  have h : ∀ j, j < 4 → (#[.int .u8 (x : Int), .int .u8 (y : Int), .int .u8 (z : Int), .int .u8 (v : Int)] : Array Value)[j]? = (u8s [x, y, z, v])[j]? := by
    intro j hj
    match j with
    | 0 => rfl
    | 1 => rfl
    | 2 => rfl
    | 3 => rfl
    | j + 4 => omega
  rw [← h j hj4]
  rw [Array.getElem?_eq_getElem (by simpa using hj4)]
  exact cells_cell (by rw [heap_alloc_get, if_pos rfl]) (Array.getElem?_eq_getElem (by simpa using hj4))
set_option maxRecDepth 100000 in
set_option maxHeartbeats 16000000 in
/-- Ack. -/
theorem plays_ack {l0 l1 l2 l3 l4 l5 l6 l7 l8 l10 l12 l13 l15 l16 l17 l18 l19 l20 l21 l22 l23 l24 l25 l26 l27 l28 l29 l30 l31 l32 l33 l34 l35 l36 l37 l38 l39 l40 l41 l42 l43 l44 l45 l46 l47 l48 l49 l50 l51 l52 l53 l54 l55 l56 l57 l58 l59 l60 l61 l63 l64 l65 l66 l67 l68 l69 l70 l71 l72 l73 l74 l75 l76 l77 l78 l79 l80 l81 l82 l83 l84 l85 l86 l87 l88 l89 l90 l91 l92 l93 l94 l95 l96 l97 l98 l99 l100 l101 l102 l103 l104 l105 l106 l107 l108 l109 l110 l111 l112 l113 l114 l115 l116 l117 l118 l119 l120 l121 l122 l123 l124 l125 l126 l127 l128 l129 l130 l131 l132 l133 l134 l135 l136 l137 l138 l139 l140 l141 l142 l143 l144 l145 l146 l147 l148 l149 l150 l151 l152 l153 l154 l155 l156 l157 l158 l159 l160 l161 l162 l163 l164 l165 l166 l167 l168 l169 l170 l171 l172 l173 l174 l175 l176 l177 l178 l179 l180 l181 l182 l183 l184 l185 l186 l187 l188 l189 l190 l191 l192 l193 l194 l195 l196 l197 l198 l199 l200 l201 l202 l203 l204 l205 l206 l207 l208 l209 l210 l211 l212 l213 l214 l215 l216 l217 l218 l219 l220 l221 l222 l223 l224 l225 l226 l227 l228 l229 l230 l231 l232 l233 l234 l235 l236 l237 l238 l239 l240 l241 l242 l243 l244 l245 l246 l247 l248 l249 l250 l251 l252 l253 l254 l255 l256 l257 l258 l259 l260 l261 l262 l263 l264 l265 l266 l267 l268 l269 l270 l271 l272 l273 l274 l275 l276 l277 l278 l279 l280 l281 l282 l283 l284 l285 l286 l287 : Value}
    {J K' : Act → World → Prop} {Q' : Exit → Act → World → Prop} {w wa : World} {b sp bm br rs u lim az zz j gi m ci b14 n2 n3 c2 ack mask : Nat} {V : Nat → Nat → Value} {q2 : Option Addr} {xs : List Nat} {a t : Int} {M : Ents} {g : Kept6} {sv : Value} {E : List En4}
    (h1 : ∀ a' w', PwRel l0 l1 l2 l3 l4 l5 l6 l7 l10 (.pointer (some ⟨br, 0, none⟩)) l12 l13 (.pointer (some ⟨b14, 0, none⟩)) l26 l27 l28 l29 l30 l31 l32 l33 l34 l35 l36 l37 l38 l39 l40 l41 l42 l43 l44 l45 l46 l47 l48 l49 l50 l51 l52 l53 l54 l55 l56 l57 l58 l59 l60 l61 (.int .i64 a) l219 l220 l221 l222 l223 l224 l225 l226 l227 l228 l229 l230 l231 l232 l233 l234 l235 l236 l237 l238 l239 l240 l241 l242 l243 l244 l245 l246 l247 l248 l249 l250 l251 l252 l253 l254 l255 l256 l257 l258 l259 l260 l261 l262 l263 l264 l265 l266 l267 l268 l269 l270 l271 l272 l273 l274 l275 l276 l277 l278 l279 l280 l281 l282 l283 l284 l285 l286 l287 (PwP w br rs lim az zz j gi m ci V) a' w' → J a' w') (h2 : ∀ a' w', Met J a' w' → K' a' w')
    (HS : Hid (PwAt w wa b sp bm br rs u lim az zz j gi m ci b14 n2 n3 c2 ack mask V q2 xs a t M g sv E)) (hack : a = 6 ∨ a = 7) :
    (blkP 2).wp Try.prog (Exit.then K' Q') ⟨#[l0, l1, l2, l3, l4, l5, l6, l7, l8, .pointer (some ⟨b, 0, none⟩), l10, .pointer (some ⟨br, 0, none⟩), l12, l13, .pointer (some ⟨b14, 0, none⟩), l15, l16, l17, l18, l19, l20, l21, l22, l23, l24, l25, l26, l27, l28, l29, l30, l31, l32, l33, l34, l35, l36, l37, l38, l39, l40, l41, l42, l43, l44, l45, l46, l47, l48, l49, l50, l51, l52, l53, l54, l55, l56, l57, l58, l59, l60, l61, .int .i64 a, l63, l64, l65, l66, l67, l68, l69, l70, l71, l72, l73, l74, l75, l76, l77, l78, l79, l80, l81, l82, l83, l84, l85, l86, l87, l88, l89, l90, l91, l92, l93, l94, l95, l96, l97, l98, l99, l100, l101, l102, l103, l104, l105, l106, l107, l108, l109, l110, l111, l112, l113, l114, l115, l116, l117, l118, l119, l120, l121, l122, l123, l124, l125, l126, l127, l128, l129, l130, l131, l132, l133, l134, l135, l136, l137, l138, l139, l140, l141, l142, l143, l144, l145, l146, l147, l148, l149, l150, l151, l152, l153, l154, l155, l156, l157, l158, l159, l160, l161, l162, l163, l164, l165, l166, l167, l168, l169, l170, l171, l172, l173, l174, l175, l176, l177, l178, l179, l180, l181, l182, l183, l184, l185, l186, l187, l188, l189, l190, l191, l192, l193, l194, l195, l196, l197, l198, l199, l200, l201, l202, l203, l204, l205, l206, l207, l208, l209, l210, l211, l212, l213, l214, l215, l216, l217, l218, l219, l220, l221, l222, l223, l224, l225, l226, l227, l228, l229, l230, l231, l232, l233, l234, l235, l236, l237, l238, l239, l240, l241, l242, l243, l244, l245, l246, l247, l248, l249, l250, l251, l252, l253, l254, l255, l256, l257, l258, l259, l260, l261, l262, l263, l264, l265, l266, l267, l268, l269, l270, l271, l272, l273, l274, l275, l276, l277, l278, l279, l280, l281, l282, l283, l284, l285, l286, l287], []⟩ wa := by
  have HKp := Lib.hid HS.out.kp
  have HO := Lib.hid HS.out.o
  have HAM := Lib.hid HS.out.am
  have t0 : (a == 0) = false := by simp; omega
  have t1 : (a == 1) = false := by simp; omega
  have t2 : (a == 2) = false := by simp; omega
  have t3 : (a == 3) = false := by simp; omega
  have t4 : (a == 4) = false := by simp; omega
  have t5 : (a == 5) = false := by simp; omega
  conv => arg 2; whnf
  go_upto_if 189 with fail
  go_cut [189] from 63 to 218 (fun s1 wc => s1 = .bool true ∧ wc = wa)
  case first =>
    clear HS HKp HO HAM t0 t1 t2 t3 t4 t5
    rcases hack with rfl | rfl
    all_goals
      go_wp2_with fail
      go_meet
      case rel => exact ⟨rfl, rfl⟩
  case rest =>
    obtain ⟨rfl, hw⟩ := hcut
    subst wc
    clear hack HS t0 t1 t2 t3 t4 t5
    obtain ⟨nn, P, c51, c52⟩ := (HKp.out.same (Step.drew wa)).ack ack mask HAM.out.1 HAM.out.2
    have y3 := cells_cell (i := 3) HO.out rfl
    have y4 := cells_cell (i := 4) HO.out rfl
    have od := obj_step HO.out (Step.drew (S := []) wa) (by simp)
    have z3 := cells_cell (i := 3) od rfl
    have z4 := cells_cell (i := 4) od rfl
    have H51 := Lib.hid c51
    have H52 := Lib.hid c52
    have HOD := Lib.hid od
    clear c51 c52 od
    go_upto_region 40 with fail
    go_region_held3 (fun W => W.cell? ⟨b14, 3, none⟩ = some (.int .u32 (ack : Int)) ∧ W.cell? ⟨b14, 4, none⟩ = some (.int .u32 (mask : Int)))
      (first | exact ⟨y3, y4⟩ | exact ⟨z3, z4⟩ | exact ⟨x3, x4⟩ | exact ⟨v3, v4⟩ | assumption)
      (first
        | (go_at_call 51; refine H51.out.mono ?_; clear H51; rintro e w1 ⟨rfl, hP⟩; obtain ⟨hT1, c52⟩ := H52.out w1 hP; have o1 := hT1.obj HOD.out (tameO_cells (by decide)); have x3 := cells_cell (i := 3) o1 rfl; have x4 := cells_cell (i := 4) o1 rfl; have HX := Lib.hid (And.intro c52 o1); clear hP hT1 c52 o1)
        | (go_at_call 52; refine HX.out.1.mono ?_; rintro e w2 ⟨rfl, hT2, hC⟩; have o2 := hT2.obj HX.out.2 (tameO_cells (by decide)); have v3 := cells_cell (i := 3) o2 rfl; have v4 := cells_cell (i := 4) o2 rfl; have HC := Lib.hid hC; clear hT2 hC o2))
    rename_i hHeld
    clear hHeld x3 x4 v3 v4 y3 y4 z3 z4 HX H52
    obtain ⟨M', g', sv', E', hC0⟩ := HC.out
    have HZ := Lib.hid hC0.more
    clear hC0 HC HOD HO HKp
    go_wp2_with fail
    refine Met.intro ?_
    refine h1 _ _ ?_
    unfold PwRel
    (repeat apply Exists.intro)
    exact ⟨⟨b, rfl, ⟨_, _, _, _, _, _, _, HZ.out⟩⟩, rfl⟩
set_option maxRecDepth 100000 in
set_option maxHeartbeats 16000000 in
/-- A copy: it is played with and left; the window itself becomes a copy. -/
theorem plays_copy {l0 l1 l2 l3 l4 l5 l6 l7 l8 l10 l12 l13 l15 l16 l17 l18 l19 l20 l21 l22 l23 l24 l25 l26 l27 l28 l29 l30 l31 l32 l33 l34 l35 l36 l37 l38 l39 l40 l41 l42 l43 l44 l45 l46 l47 l48 l49 l50 l51 l52 l53 l54 l55 l56 l57 l58 l59 l60 l61 l63 l64 l65 l66 l67 l68 l69 l70 l71 l72 l73 l74 l75 l76 l77 l78 l79 l80 l81 l82 l83 l84 l85 l86 l87 l88 l89 l90 l91 l92 l93 l94 l95 l96 l97 l98 l99 l100 l101 l102 l103 l104 l105 l106 l107 l108 l109 l110 l111 l112 l113 l114 l115 l116 l117 l118 l119 l120 l121 l122 l123 l124 l125 l126 l127 l128 l129 l130 l131 l132 l133 l134 l135 l136 l137 l138 l139 l140 l141 l142 l143 l144 l145 l146 l147 l148 l149 l150 l151 l152 l153 l154 l155 l156 l157 l158 l159 l160 l161 l162 l163 l164 l165 l166 l167 l168 l169 l170 l171 l172 l173 l174 l175 l176 l177 l178 l179 l180 l181 l182 l183 l184 l185 l186 l187 l188 l189 l190 l191 l192 l193 l194 l195 l196 l197 l198 l199 l200 l201 l202 l203 l204 l205 l206 l207 l208 l209 l210 l211 l212 l213 l214 l215 l216 l217 l218 l219 l220 l221 l222 l223 l224 l225 l226 l227 l228 l229 l230 l231 l232 l233 l234 l235 l236 l237 l238 l239 l240 l241 l242 l243 l244 l245 l246 l247 l248 l249 l250 l251 l252 l253 l254 l255 l256 l257 l258 l259 l260 l261 l262 l263 l264 l265 l266 l267 l268 l269 l270 l271 l272 l273 l274 l275 l276 l277 l278 l279 l280 l281 l282 l283 l284 l285 l286 l287 : Value}
    {J K' : Act → World → Prop} {Q' : Exit → Act → World → Prop} {w wa : World} {b sp bm br rs u lim az zz j gi m ci b14 n2 n3 c2 ack mask : Nat} {V : Nat → Nat → Value} {q2 : Option Addr} {xs : List Nat} {a t : Int} {M : Ents} {g : Kept6} {sv : Value} {E : List En4}
    (h1 : ∀ a' w', PwRel l0 l1 l2 l3 l4 l5 l6 l7 l10 (.pointer (some ⟨br, 0, none⟩)) l12 l13 (.pointer (some ⟨b14, 0, none⟩)) l26 l27 l28 l29 l30 l31 l32 l33 l34 l35 l36 l37 l38 l39 l40 l41 l42 l43 l44 l45 l46 l47 l48 l49 l50 l51 l52 l53 l54 l55 l56 l57 l58 l59 l60 l61 (.int .i64 a) l219 l220 l221 l222 l223 l224 l225 l226 l227 l228 l229 l230 l231 l232 l233 l234 l235 l236 l237 l238 l239 l240 l241 l242 l243 l244 l245 l246 l247 l248 l249 l250 l251 l252 l253 l254 l255 l256 l257 l258 l259 l260 l261 l262 l263 l264 l265 l266 l267 l268 l269 l270 l271 l272 l273 l274 l275 l276 l277 l278 l279 l280 l281 l282 l283 l284 l285 l286 l287 (PwP w br rs lim az zz j gi m ci V) a' w' → J a' w') (h2 : ∀ a' w', Met J a' w' → K' a' w')
    (HS : Hid (PwAt w wa b sp bm br rs u lim az zz j gi m ci b14 n2 n3 c2 ack mask V q2 xs a t M g sv E)) (hcp : a = 8) :
    (blkP 2).wp Try.prog (Exit.then K' Q') ⟨#[l0, l1, l2, l3, l4, l5, l6, l7, l8, .pointer (some ⟨b, 0, none⟩), l10, .pointer (some ⟨br, 0, none⟩), l12, l13, .pointer (some ⟨b14, 0, none⟩), l15, l16, l17, l18, l19, l20, l21, l22, l23, l24, l25, l26, l27, l28, l29, l30, l31, l32, l33, l34, l35, l36, l37, l38, l39, l40, l41, l42, l43, l44, l45, l46, l47, l48, l49, l50, l51, l52, l53, l54, l55, l56, l57, l58, l59, l60, l61, .int .i64 a, l63, l64, l65, l66, l67, l68, l69, l70, l71, l72, l73, l74, l75, l76, l77, l78, l79, l80, l81, l82, l83, l84, l85, l86, l87, l88, l89, l90, l91, l92, l93, l94, l95, l96, l97, l98, l99, l100, l101, l102, l103, l104, l105, l106, l107, l108, l109, l110, l111, l112, l113, l114, l115, l116, l117, l118, l119, l120, l121, l122, l123, l124, l125, l126, l127, l128, l129, l130, l131, l132, l133, l134, l135, l136, l137, l138, l139, l140, l141, l142, l143, l144, l145, l146, l147, l148, l149, l150, l151, l152, l153, l154, l155, l156, l157, l158, l159, l160, l161, l162, l163, l164, l165, l166, l167, l168, l169, l170, l171, l172, l173, l174, l175, l176, l177, l178, l179, l180, l181, l182, l183, l184, l185, l186, l187, l188, l189, l190, l191, l192, l193, l194, l195, l196, l197, l198, l199, l200, l201, l202, l203, l204, l205, l206, l207, l208, l209, l210, l211, l212, l213, l214, l215, l216, l217, l218, l219, l220, l221, l222, l223, l224, l225, l226, l227, l228, l229, l230, l231, l232, l233, l234, l235, l236, l237, l238, l239, l240, l241, l242, l243, l244, l245, l246, l247, l248, l249, l250, l251, l252, l253, l254, l255, l256, l257, l258, l259, l260, l261, l262, l263, l264, l265, l266, l267, l268, l269, l270, l271, l272, l273, l274, l275, l276, l277, l278, l279, l280, l281, l282, l283, l284, l285, l286, l287], []⟩ wa := by
  have HKp := Lib.hid HS.out.kp
  clear HS
  subst hcp
  conv => arg 2; whnf
  go_wp2_with fail
  refine (copy6_any HKp.out.win).mono ?_
  rintro e w1 ⟨c, cs, cm, rfl, hW, hc1, hc2, hc3, hs1⟩
  have H1 := Lib.hid (And.intro hW (And.intro hs1 (And.intro hc2 hc3)))
  clear hW hs1 hc1 hc2 hc3
  have cv := fun (X : World) (C : Array Value) (n c : Nat) => Lib.run_convert_bytes_const (P := Try.prog) X 71 5 C n c Try.underlying71 Try.underlying5
  go_wp2_with fail
  clear cv
  have hsl : Step [] w1 (w1.alloc (.cells #[.int .u8 99, .int .u8 111, .int .u8 112, .int .u8 121] 5 (4, 5))) := Step.alloc _ _
  refine (put6_some (H1.out.1.same hsl) (by have := HKp.out.st.size; have := H1.out.2.1.size; have := hsl.size; omega) HKp.out.n (p := [99, 111, 112, 121]) (n := 4) rfl (by simp) (by simp) (lit4_reads w1 99 111 112 121 (4, 5))).mono ?_
  rintro e w2 ⟨nn, ff, u', M', g', rfl, hW2, hn2, hs2⟩
  have hst2 : Step [] wa w2 := (H1.out.2.1.trans hsl).trans' hs2 (fun _ h _ => h) (fun i hi hl => by have := H1.out.2.2; simp at hi; rcases hi with rfl | rfl <;> omega)
  have H2 := Lib.hid (And.intro hW2 (And.intro hst2 (And.intro H1.out.2.2.2 hn2)))
  clear hsl hs2 hW2 hst2 hn2 H1
  go_wp2_with fail
  refine (next6_any _ _ _ _ _ _ _ _ _ _ _ H2.out.1).mono ?_
  rintro e w' ⟨rfl, hw⟩
  cases hw.symm
  go_wp2_with fail
  refine (ack6_any H2.out.1 (by have := H2.out.2.2.2; omega) u' 0 (Nat.le_refl _) (by omega)).mono ?_
  rintro e w3 ⟨M3, rfl, _, _, hs3⟩
  have hst3 : Step [] wa w3 := H2.out.2.1.trans' hs3 (fun _ h _ => h) (fun i hi hl => by have := H2.out.2.2.1; simp at hi; omega)
  have H3 := Lib.hid (HKp.out.same hst3)
  clear hs3 hst3 H2
  go_wp2_with fail
  refine (copy6_any H3.out.win).mono ?_
  rintro e w4 ⟨d, ds, dm, rfl, hW4, hd1, hd2, hd3, hs4⟩
  have HZ := Lib.hid (show PlAt w d ds dm br rs u lim az zz j M g sv E (.slice (some ⟨gi, 0, none⟩) m ci) m V w4 from
    ⟨hW4, H3.out.ref.same hs4, H3.out.st.trans hs4, H3.out.n, H3.out.tr, H3.out.ka.same hs4⟩)
  clear hW4 hd1 hd2 hd3 hs4 H3 HKp
  go_wp2_with fail
  refine Met.intro ?_
  refine h1 _ _ ?_
  unfold PwRel
  (repeat apply Exists.intro)
  exact ⟨⟨d, rfl, ⟨_, _, _, _, _, _, _, HZ.out.more⟩⟩, rfl⟩
end Go.Proofs.Ytbainekfbonbjaa
