/- WindowPlays: its switch at Due. Printed by wip/tools/genPlL.py. No statement is proved here; nothing is assumed. -/
import Derived.Test.YtbainekfbonbjaaPlK
namespace Go.Proofs.Ytbainekfbonbjaa
open Go.RowKit Go.Shelf
set_option linter.unusedVariables false
set_option linter.unusedSimpArgs false
attribute [local go_sem] Oper.semAt_some

theorem cells3_atP : ∀ (E : List (Nat × Value × Nat)) (j : Nat) e, E[j]? = some e → (cells3 E)[j * 3]? = some (.int .u32 (e.1 : Int)) ∧ (cells3 E)[j * 3 + 1]? = some e.2.1 ∧ (cells3 E)[j * 3 + 2]? = some (.int .i64 (e.2.2 : Int))
  | [], j, e, h => by simp at h
  | p :: t, 0, e, h => by
    simp at h
    subst h
    exact ⟨rfl, rfl, rfl⟩
  | p :: t, j + 1, e, h => by
    have ih := cells3_atP t j e (by simpa using h)
    have e1 : cells3 (p :: t) = .int .u32 (p.1 : Int) :: p.2.1 :: .int .i64 (p.2.2 : Int) :: cells3 t := rfl
    rw [e1, show (j + 1) * 3 = j * 3 + 1 + 1 + 1 by omega]
    refine ⟨ih.1, ?_, ?_⟩
    · rw [show j * 3 + 1 + 1 + 1 + 1 = (j * 3 + 1) + 1 + 1 + 1 by omega]; exact ih.2.1
    · rw [show j * 3 + 1 + 1 + 1 + 2 = (j * 3 + 2) + 1 + 1 + 1 by omega]; exact ih.2.2
theorem row3_at {B : Nat} {W : World} {q : Option Addr} {n c i : Nat} {E : List (Nat × Value × Nat)} {e : Nat × Value × Nat} (h : W.ownsRow B 81 3 (.slice q n c) n (cells3 E)) (he : E[i]? = some e) :
    ∃ g, q = some ⟨g, 0, none⟩ ∧ W.cell? ⟨g, i * 3, none⟩ = some (.int .u32 (e.1 : Int)) ∧ W.cell? ⟨g, i * 3 + 1, none⟩ = some e.2.1 ∧ W.cell? ⟨g, i * 3 + 2, none⟩ = some (.int .i64 (e.2.2 : Int)) := by
  obtain ⟨k1, k2, k3⟩ := cells3_atP E i e he
  obtain ⟨g, cap, a1, _, _, a4, _⟩ := row_cell6 h k1
  obtain ⟨g2, cap2, b1, _, _, b4, _⟩ := row_cell6 h k2
  obtain ⟨g3, cap3, c1, _, _, c4, _⟩ := row_cell6 h k3
  injection a1 with a1 _ _
  subst a1
  injection b1 with b1 _ _
  injection b1 with b1
  injection b1 with b1
  injection c1 with c1 _ _
  injection c1 with c1
  injection c1 with c1
  subst b1
  subst c1
  exact ⟨g, rfl, a4, b4, c4⟩
set_option maxRecDepth 100000 in
set_option maxHeartbeats 16000000 in
/-- Due. -/
theorem plays_due {l0 l1 l2 l3 l4 l5 l6 l7 l8 l10 l12 l13 l15 l16 l17 l18 l19 l20 l21 l22 l23 l24 l25 l26 l27 l28 l29 l30 l31 l32 l33 l34 l35 l36 l37 l38 l39 l40 l41 l42 l43 l44 l45 l46 l47 l48 l49 l50 l51 l52 l53 l54 l55 l56 l57 l58 l59 l60 l61 l63 l64 l65 l66 l67 l68 l69 l70 l71 l72 l73 l74 l75 l76 l77 l78 l79 l80 l81 l82 l83 l84 l85 l86 l87 l88 l89 l90 l91 l92 l93 l94 l95 l96 l97 l98 l99 l100 l101 l102 l103 l104 l105 l106 l107 l108 l109 l110 l111 l112 l113 l114 l115 l116 l117 l118 l119 l120 l121 l122 l123 l124 l125 l126 l127 l128 l129 l130 l131 l132 l133 l134 l135 l136 l137 l138 l139 l140 l141 l142 l143 l144 l145 l146 l147 l148 l149 l150 l151 l152 l153 l154 l155 l156 l157 l158 l159 l160 l161 l162 l163 l164 l165 l166 l167 l168 l169 l170 l171 l172 l173 l174 l175 l176 l177 l178 l179 l180 l181 l182 l183 l184 l185 l186 l187 l188 l189 l190 l191 l192 l193 l194 l195 l196 l197 l198 l199 l200 l201 l202 l203 l204 l205 l206 l207 l208 l209 l210 l211 l212 l213 l214 l215 l216 l217 l218 l219 l220 l221 l222 l223 l224 l225 l226 l227 l228 l229 l230 l231 l232 l233 l234 l235 l236 l237 l238 l239 l240 l241 l242 l243 l244 l245 l246 l247 l248 l249 l250 l251 l252 l253 l254 l255 l256 l257 l258 l259 l260 l261 l262 l263 l264 l265 l266 l267 l268 l269 l270 l271 l272 l273 l274 l275 l276 l277 l278 l279 l280 l281 l282 l283 l284 l285 l286 l287 : Value}
    {J K' : Act → World → Prop} {Q' : Exit → Act → World → Prop} {w wa : World} {b sp bm br rs u lim az zz j gi m ci b14 n2 n3 c2 ack mask : Nat} {V : Nat → Nat → Value} {q2 : Option Addr} {xs : List Nat} {a t : Int} {M : Ents} {g : Kept6} {sv : Value} {E : List En4}
    (h1 : ∀ a' w', PwRel l0 l1 l2 l3 l4 l5 l6 l7 l10 (.pointer (some ⟨br, 0, none⟩)) l12 l13 (.pointer (some ⟨b14, 0, none⟩)) l26 l27 l28 l29 l30 l31 l32 l33 l34 l35 l36 l37 l38 l39 l40 l41 l42 l43 l44 l45 l46 l47 l48 l49 l50 l51 l52 l53 l54 l55 l56 l57 l58 l59 l60 l61 (.int .i64 a) l219 l220 l221 l222 l223 l224 l225 l226 l227 l228 l229 l230 l231 l232 l233 l234 l235 l236 l237 l238 l239 l240 l241 l242 l243 l244 l245 l246 l247 l248 l249 l250 l251 l252 l253 l254 l255 l256 l257 l258 l259 l260 l261 l262 l263 l264 l265 l266 l267 l268 l269 l270 l271 l272 l273 l274 l275 l276 l277 l278 l279 l280 l281 l282 l283 l284 l285 l286 l287 (PwP w br rs lim az zz j gi m ci V) a' w' → J a' w') (h2 : ∀ a' w', Met J a' w' → K' a' w')
    (HS : Hid (PwAt w wa b sp bm br rs u lim az zz j gi m ci b14 n2 n3 c2 ack mask V q2 xs a t M g sv E)) (hdue : a = 4 ∨ a = 5) :
    (blkP 2).wp Try.prog (Exit.then K' Q') ⟨#[l0, l1, l2, l3, l4, l5, l6, l7, l8, .pointer (some ⟨b, 0, none⟩), l10, .pointer (some ⟨br, 0, none⟩), l12, l13, .pointer (some ⟨b14, 0, none⟩), l15, l16, l17, l18, l19, l20, l21, l22, l23, l24, l25, l26, l27, l28, l29, l30, l31, l32, l33, l34, l35, l36, l37, l38, l39, l40, l41, l42, l43, l44, l45, l46, l47, l48, l49, l50, l51, l52, l53, l54, l55, l56, l57, l58, l59, l60, l61, .int .i64 a, l63, l64, l65, l66, l67, l68, l69, l70, l71, l72, l73, l74, l75, l76, l77, l78, l79, l80, l81, l82, l83, l84, l85, l86, l87, l88, l89, l90, l91, l92, l93, l94, l95, l96, l97, l98, l99, l100, l101, l102, l103, l104, l105, l106, l107, l108, l109, l110, l111, l112, l113, l114, l115, l116, l117, l118, l119, l120, l121, l122, l123, l124, l125, l126, l127, l128, l129, l130, l131, l132, l133, l134, l135, l136, l137, l138, l139, l140, l141, l142, l143, l144, l145, l146, l147, l148, l149, l150, l151, l152, l153, l154, l155, l156, l157, l158, l159, l160, l161, l162, l163, l164, l165, l166, l167, l168, l169, l170, l171, l172, l173, l174, l175, l176, l177, l178, l179, l180, l181, l182, l183, l184, l185, l186, l187, l188, l189, l190, l191, l192, l193, l194, l195, l196, l197, l198, l199, l200, l201, l202, l203, l204, l205, l206, l207, l208, l209, l210, l211, l212, l213, l214, l215, l216, l217, l218, l219, l220, l221, l222, l223, l224, l225, l226, l227, l228, l229, l230, l231, l232, l233, l234, l235, l236, l237, l238, l239, l240, l241, l242, l243, l244, l245, l246, l247, l248, l249, l250, l251, l252, l253, l254, l255, l256, l257, l258, l259, l260, l261, l262, l263, l264, l265, l266, l267, l268, l269, l270, l271, l272, l273, l274, l275, l276, l277, l278, l279, l280, l281, l282, l283, l284, l285, l286, l287], []⟩ wa := by
  have HKp := Lib.hid HS.out.kp
  have HO := Lib.hid HS.out.o
  have HJM := Lib.hid (And.intro (show j = j from rfl) HS.out.jm)
  have t0 : (a == 0) = false := by simp; omega
  have t1 : (a == 1) = false := by simp; omega
  have t2 : (a == 2) = false := by simp; omega
  have t3 : (a == 3) = false := by simp; omega
  conv => arg 2; whnf
  go_upto_if 108 with fail
  go_cut [108] from 63 to 218 (fun s1 wc => s1 = .bool true ∧ wc = wa)
  case first =>
    clear HS HKp HO HJM t0 t1 t2 t3
    rcases hdue with rfl | rfl
    all_goals
      go_wp2_with fail
      go_meet
      case rel => exact ⟨rfl, rfl⟩
  case rest =>
    obtain ⟨rfl, hw⟩ := hcut
    subst wc
    clear hdue HS t0 t1 t2 t3
    obtain ⟨D, P, hD16, c49, c50⟩ := (HKp.out.same (Step.drew wa)).due (by have := HJM.out.2; omega) t
    obtain ⟨L, hL⟩ : ∃ L, L = D.length := ⟨_, rfl⟩
    rw [← hL] at c49 c50 hD16
    have y2 := cells_cell (i := 2) HO.out rfl
    have od := obj_step HO.out (Step.drew (S := []) wa) (by simp)
    have z2 := cells_cell (i := 2) od rfl
    have H49 := Lib.hid c49
    have H50 := Lib.hid c50
    have HOD := Lib.hid od
    have HL := Lib.hid hL
    clear c49 c50 od hL
    go_upto_region 26 with fail
    go_region_held3 (fun W => W.cell? ⟨b14, 2, none⟩ = some (.int .i64 t))
      (first | exact y2 | exact z2 | assumption)
      (first
        | (go_at_call 49; refine H49.out.mono ?_; clear H49; rintro e w1 ⟨qx, cx, rfl, hcx, hmx, hP⟩; obtain ⟨hT1, c50⟩ := H50.out qx cx w1 hP; have o1 := hT1.obj HOD.out (tameO_cells (by decide)); have x2 := cells_cell (i := 2) o1 rfl; have HX := Lib.hid (And.intro c50 (And.intro o1 hmx)); clear hP hT1 c50 o1 hmx)
        | (go_at_call 50; refine HX.out.1.mono ?_; rintro e w2 ⟨qy, cy, rfl, hcy, hmy, hT2, hC⟩; have o2 := hT2.obj HX.out.2.1 (tameO_cells (by decide)); have x3 := cells_cell (i := 2) o2 rfl; have HC := Lib.hid (And.intro hC (And.intro hmy HX.out.2.2)); clear hT2 hC o2 hmy))
    rename_i hHeld
    clear hHeld x2 x3 y2 z2 HX H50
    have hcxi : (cx : Int) ≤ 9223372036854775807 := by have := HC.out.2.2; unfold maxLen at this; omega
    have hcyi : (cy : Int) ≤ 9223372036854775807 := by have := HC.out.2.1; unfold maxLen at this; omega
    obtain ⟨M', g', E', E3, ED, hC0⟩ := HC.out.1
    have H0 := Lib.hid hC0
    clear hC0 HC HOD HO HKp
    go_wp2_with fail
    go_loopw [23] (fun i wr => ∃ k : Nat, k ≤ L ∧ i = .int .i64 (k : Int) ∧ Hid (CmAt w b sp bm br rs u lim az zz (j + 1) M' g' sv E' (.slice (some ⟨gi, 0, none⟩) m ci) m V wa.drew.heap.size qx cx qy cy D E3 ED k wr)) (fun i _ => L - (intOf i).toNat)
    case atStart => exact ⟨0, by omega, rfl, H0.out⟩
    case round =>
      clear H0
      obtain ⟨k, hk, rfl, hI⟩ := hrel
      by_cases hlt : k < L
      · have hki : (k : Int) < (L : Int) := by omega
        obtain ⟨d, hd⟩ : ∃ d, D[k]? = some d := ⟨_, List.getElem?_eq_getElem (by have := HL.out; omega)⟩
        obtain ⟨e, he⟩ : ∃ e, E3[k]? = some e := ⟨_, List.getElem?_eq_getElem (by have := HL.out; have := hI.out.lx; omega)⟩
        obtain ⟨f, hf⟩ : ∃ f, ED[k]? = some f := ⟨_, List.getElem?_eq_getElem (by have := HL.out; have := hI.out.ly; omega)⟩
        obtain ⟨gx, rfl, x0, x1, x2⟩ := row3_at hI.out.x he
        obtain ⟨gy, rfl, y0, y1, y2, _⟩ := row4_at hI.out.y hf
        obtain ⟨e1, e2⟩ := hI.out.ex k e d he hd
        obtain ⟨f1, f2, f3⟩ := hI.out.ey k f d hf hd
        have hpx := hI.out.px k e d (Nat.le_refl _) he hd
        obtain ⟨pq, pc, hpv, hpc, hpm⟩ := hpx.1.form
        obtain ⟨rq, rc, hrv, hrc, hrm⟩ := f3.1.form
        rw [u8s_length] at hpv hpc hrv hrc
        obtain ⟨num, hnum⟩ : ∃ num, num = d.1 := ⟨_, rfl⟩
        obtain ⟨tri, htri⟩ : ∃ tri, tri = d.2.2 := ⟨_, rfl⟩
        obtain ⟨pay, hpay⟩ : ∃ pay, pay = d.2.1 := ⟨_, rfl⟩
        obtain ⟨pl, hpl⟩ : ∃ pl, pl = pay.length := ⟨_, rfl⟩
        rw [e1, ← hnum] at x0
        rw [e2, ← htri] at x2
        rw [f1, ← hnum] at y0
        rw [f2, ← htri] at y2
        rw [← hpay] at hpv hpc hrv hrc hpx f3
        rw [← hpl] at hpv hpc hrv hrc
        rw [hpv] at x1 hpx
        rw [hrv] at y1 f3
        have hcv1 := back_all _ _ pay hpx.2.2 ((hpx.same (Step.drew wr)).1.reads)
        have hcv2 := back_all _ _ pay f3.2.2 ((f3.same (Step.drew wr)).1.reads)
        have hcv3 := back_all _ _ pay hpx.2.2 hpx.1.reads
        have hcv4 := back_all _ _ pay f3.2.2 f3.1.reads
        have hpci : (pc : Int) ≤ 9223372036854775807 := by unfold maxLen at hpm; omega
        have hrci : (rc : Int) ≤ 9223372036854775807 := by unfold maxLen at hrm; omega
        have HB := Lib.hid (And.intro (hI.out.same (Step.drew wr)).next (And.intro (hpx.same (Step.drew wr)) (And.intro he (And.intro hpv (And.intro hpl hI.out.b0)))))
        have xa : wr.drew.cell? ⟨gx, k * 3, none⟩ = some (.int .u32 (num : Int)) := x0
        clear hI hd he hf e1 e2 f1 f2 f3 hpx hpv hrv hpm hrm hnum htri hpay hpl
        go_upto_region 32 with fail
        go_region_held3 (fun W => W.cell? ⟨gx, k * 3, none⟩ = some (.int .u32 (num : Int)) ∧ W.cell? ⟨gx, k * 3 + 1, none⟩ = some (.slice pq pl pc) ∧ W.cell? ⟨gx, k * 3 + 2, none⟩ = some (.int .i64 (tri : Int)) ∧ W.cell? ⟨gy, k * 4, none⟩ = some (.int .u32 (num : Int)) ∧ W.cell? ⟨gy, k * 4 + 1, none⟩ = some (.slice rq pl rc) ∧ W.cell? ⟨gy, k * 4 + 2, none⟩ = some (.int .i64 (tri : Int)) ∧ (convert 71 9 (.slice pq pl pc)).run Try.prog W = .ok (.string (strN pay)) W ∧ (convert 71 9 (.slice rq pl rc)).run Try.prog W = .ok (.string (strN pay)) W)
          (first | exact ⟨x0, x1, x2, y0, y1, y2, hcv3, hcv4⟩ | exact ⟨x0, x1, x2, y0, y1, y2, hcv1, hcv2⟩ | assumption)
          (fail)
        rename_i hHeld
        clear hHeld x0 x1 x2 y0 y1 y2 xa hcv1 hcv2 hcv3 hcv4
        go_wp2_with fail
        go_loopw [24] (fun i wx => ∃ k2 : Nat, k2 ≤ pl ∧ i = .int .i64 (k2 : Int) ∧ Hid (CmAt w b sp bm br rs u lim az zz (j + 1) M' g' sv E' (.slice (some ⟨gi, 0, none⟩) m ci) m V wa.drew.heap.size (some ⟨gx, 0, none⟩) cx (some ⟨gy, 0, none⟩) cy D E3 ED (k + 1) wx ∧ ∃ vals, OwnAt wa.drew.heap.size wx 5 (.slice pq pl pc) vals ∧ allU8 vals ∧ vals.length = pl)) (fun i _ => pl - (intOf i).toNat)
        case atStart => exact ⟨0, by omega, rfl, HB.out.1, _, HB.out.2.1.1, allU8_u8s _, by rw [u8s_length]; exact HB.out.2.2.2.2.1.symm⟩
        case round =>
          obtain ⟨k2, hk2, rfl, hI2⟩ := hrel
          obtain ⟨gx', hgx, x0, x1, x2⟩ := row3_at hI2.out.1.x HB.out.2.2.1
          injection hgx with hgx
          injection hgx with hgx
          subst hgx
          rw [HB.out.2.2.2.1] at x1
          clear x0 x2
          by_cases hlt2 : k2 < pl
          · have hki2 : (k2 : Int) < (pl : Int) := by omega
            obtain ⟨hCm, vals, hOw, hU, hvl⟩ := hI2.out
            obtain ⟨_, go, off, yv, cur, rfl, hy, kc, kf, ko, klo, kt⟩ := hOw.turn (i := k2) (by omega)
            obtain ⟨yi, rfl⟩ := hU _ (List.mem_of_getElem? hy)
            have HK := Lib.hid (And.intro hCm (And.intro hU (And.intro hvl (And.intro ko (And.intro klo kt)))))
            clear hI2 hCm hOw hU hvl hy ko klo kt
            go_wp2_with fail
            go_roundw
            case rel =>
              refine ⟨k2 + 1, by omega, by go_num, ?_⟩
              obtain ⟨hCm, hU, hvl, ko, klo, kt⟩ := HK.out
              obtain ⟨k1, k3⟩ := kt (.int .u8 (bits .xor .u8 yi 255))
              exact ⟨hCm.poke k3 klo ko HB.out.2.2.1 (by rw [HB.out.2.2.2.1]; rfl), _, k1, hU.set _ _, by rw [List.length_set]; exact hvl⟩
            case measure => simp [intOf]; omega
          · obtain rfl : k2 = pl := by omega
            have HZ := Lib.hid hI2.out.1
            clear hI2 hlt2
            go_wp2_with fail
            go_roundw
            case rel => exact ⟨k + 1, by omega, by go_num, HZ.out⟩
            case measure => simp [intOf]; omega
      · obtain rfl : k = L := by omega
        have HZ := Lib.hid hI.out.pl
        clear hI hlt
        go_wp2_with fail
        refine Met.intro ?_
        refine h1 _ _ ?_
        unfold PwRel
        (repeat apply Exists.intro)
        exact ⟨⟨b, rfl, ⟨_, _, _, _, _, _, _, HZ.out⟩⟩, rfl⟩
end Go.Proofs.Ytbainekfbonbjaa
