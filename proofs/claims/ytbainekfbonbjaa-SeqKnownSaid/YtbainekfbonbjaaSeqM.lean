import Derived.Test.YtbainekfbonbjaaSeqL
import Derived.OwnWalkIn
import Derived.TacticsInMore
import Derived.LoopNIn
import Derived.LoopIn
import Derived.Deep.QuietTactic
import Derived.BigQuiet
import Derived.Maps.OwnIn
namespace Go.Proofs.Ytbainekfbonbjaa
open Go.RowKit Go.Shelf
set_option linter.unusedVariables false
attribute [local go_sem] Oper.semAt_some

theorem next_nil (w : World) : Calls Try.prog 39 #[.pointer none] w fun e w' => e = .returned (.tuple #[.int .u32 0, .int .i64 2]) ∧ Step [] w w' := by
  go_enter Try.func39, Try.ntmps39
  go_wp2_with (go_at_call 91; refine (spaceNone_nil _).mono ?_; rintro e w' ⟨rfl, rfl⟩)
  go_ret2
  exact ⟨rfl, Step.refl _ _⟩
theorem next_zero (b u : Nat) (w : World) (h : SpaceAt w b u 0) : Calls Try.prog 39 #[.pointer (some ⟨b, 0, none⟩)] w fun e w' => e = .returned (.tuple #[.int .u32 0, .int .i64 2]) ∧ Step [] w w' := by
  have H := Lib.hid h
  clear h
  go_enter Try.func39, Try.ntmps39
  go_wp2_with (go_at_call 91; refine (spaceNone_zero b u _ H.out).mono ?_; rintro e w' ⟨rfl, rfl⟩)
  go_ret2
  exact ⟨rfl, Step.refl _ _⟩
theorem used_nil (w : World) : Calls Try.prog 41 #[.pointer none] w fun e w' => e = .returned (.int .u32 0) ∧ Step [] w w' := by
  go_enter Try.func41, Try.ntmps41
  go_wp2_with (go_at_call 91; refine (spaceNone_nil _).mono ?_; rintro e w' ⟨rfl, rfl⟩)
  go_ret
  exact ⟨rfl, Step.refl _ _⟩
theorem left_zero (b u : Nat) (w : World) (h : SpaceAt w b u 0) : Calls Try.prog 42 #[.pointer (some ⟨b, 0, none⟩)] w fun e w' => e = .returned (.int .u32 0) ∧ Step [] w w' := by
  have H := Lib.hid h
  clear h
  go_enter Try.func42, Try.ntmps42
  go_wp2_with (go_at_call 91; refine (spaceNone_zero b u _ H.out).mono ?_; rintro e w' ⟨rfl, rfl⟩)
  go_ret
  exact ⟨rfl, Step.refl _ _⟩

theorem spanLen_any (f t : Nat) (w : World) (h1 : f < 4294967296) (h3 : t < 4294967296) :
    Calls Try.prog 21 #[.agg #[.int .u32 (f : Int), .int .u32 (t : Int)]] w fun e w' => e = .returned (.int .i64 ((t - f : Nat) : Int)) ∧ Step [] w w' := by
  by_cases h : t ≤ f
  · have e1 : ((t - f : Nat) : Int) = 0 := by omega
    have HE := Lib.hid e1
    clear e1
    go_enter Try.func21, Try.ntmps21
    go_wp2
    all_goals
      go_ret
      refine ⟨?_, Step.alloc _ _⟩
      first | rfl | (simp; omega) | (rw [HE.out]; first | rfl | (simp; omega))
  · have e1 : ((t - f : Nat) : Int) = (t : Int) - (f : Int) := by omega
    have HE := Lib.hid e1
    clear e1
    go_enter Try.func21, Try.ntmps21
    go_wp2
    all_goals
      go_ret
      refine ⟨?_, Step.alloc _ _⟩
      first | rfl | (simp; omega) | (rw [HE.out]; first | rfl | (simp; omega))
theorem spanHas_any (f t n : Int) (w : World) :
    Calls Try.prog 22 #[.agg #[.int .u32 f, .int .u32 t], .int .u32 n] w fun e w' => e = .returned (.bool (decide (f ≤ n) && decide (n < t))) ∧ Step [] w w' := by
  by_cases h1 : f ≤ n
  · go_enter Try.func22, Try.ntmps22
    go_wp2
    go_ret
    exact ⟨by simp [h1], Step.alloc _ _⟩
  · go_enter Try.func22, Try.ntmps22
    go_wp2
    go_ret
    exact ⟨by simp; omega, Step.alloc _ _⟩

/-- first(Span.All(), m). -/
theorem firstAll_any (f t m : Nat) (hf : f < 4294967296) (ht : t < 4294967296) (hmm : m ≤ 1000) (w w1 : World) (hw1 : w.alloc (.cells #[.int .u32 (f : Int), .int .u32 (t : Int)] 25) = w1) :
    Calls Try.prog 26 #[.func (.func 87) #[] #[.pointer (some ⟨w.heap.size, 0, none⟩)], .int .i64 (m : Int)] w1 fun e W' => ∃ v, e = .returned v ∧ OwnU w.heap.size W' v ((List.range' f (t - f)).take m) ∧ Step [] w W' := by
  have hs1 : Step [] w w1 := by rw [← hw1]; exact Step.alloc _ _
  have hb : w1.heap[w.heap.size]? = some (spanObj f t) := by rw [← hw1, heap_alloc_get, if_pos rfl]; rfl
  refine (first_any (all_gives f t w.heap.size ht hf) enters87 m hmm w1 ?_).mono ?_
  · intro W' hs
    exact obj_step hb hs (by simp)
  · rintro e W' ⟨v, rfl, hv, hs⟩
    refine ⟨v, rfl, ?_, hs1.trans hs⟩
    obtain ⟨h1, h2⟩ := hv
    refine ⟨h1, h2.imp id ?_⟩
    rintro ⟨g, cap, cur, e, hb, rest⟩
    exact ⟨g, cap, cur, e, by have := hs1.size; omega, rest⟩

theorem enters61 : Enters Try.prog 61 := enters_of Try.func61 (by kernel_rfl) rfl
theorem true61_asks (D : Nat → Prop) : Asks 61 #[] (fun _ => true) D (fun _ => True) := by
  rintro x W _ _
  show Calls Try.prog 61 #[.int .u32 (x : Int)] W _
  go_enter Try.func61, Try.ntmps61
  go_wp2
  go_ret
  exact ⟨rfl, Step.refl _ _⟩
theorem mask_yes (ack : Nat) (a : Int) (m : Nat) (ha : ack < 4294967296) (e : a = (ack : Int)) (hm : maskOf ack (fun _ => true) = m) (w : World) :
    Calls Try.prog 31 #[.int .u32 a, .func (.func 61) #[] #[]] w fun e W' => e = .returned (.int .u32 (m : Int)) ∧ Step [] w W' := by
  subst e; subst hm
  exact mask_any ack ha enters61 _ (true61_asks _) w (fun _ _ => trivial)
theorem yes1 : maskOf 4294967295 (fun _ => true) = 0 := by rw [maskOf_true]; rfl
theorem yes2 : maskOf 4294967294 (fun _ => true) = 1 := by rw [maskOf_true]; rfl
theorem yes3 : maskOf 0 (fun _ => true) = 4294967295 := by rw [maskOf_true]; rfl
theorem told1 : toldL 4294967293 4294967295 = [4294967294, 4294967295] := by decide +kernel
theorem told2 : toldL 7 2147483648 = [39] := by decide +kernel

theorem newBad0 (w : World) : Calls Try.prog 37 #[.int .u32 0] w fun e w' => e = .returned (.tuple #[.pointer none, .int .i64 1]) ∧ Step [] w w' := by
  refine (spaceNew_bad 0 (by omega) w).mono ?_
  rintro e w' ⟨rfl, h⟩
  exact ⟨rfl, by rw [h]; exact Step.refl [] _⟩
theorem newBad1 (w : World) : Calls Try.prog 37 #[.int .u32 2147483649] w fun e w' => e = .returned (.tuple #[.pointer none, .int .i64 1]) ∧ Step [] w w' := by
  refine (spaceNew_bad 2147483649 (by omega) w).mono ?_
  rintro e w' ⟨rfl, h⟩
  exact ⟨rfl, by rw [h]; exact Step.refl [] _⟩

theorem leftNew (b : Nat) (w : World) (h : SpaceAt w b 0 2147483648) : Calls Try.prog 42 #[.pointer (some ⟨b, 0, none⟩)] w fun e w' => e = .returned (.int .u32 2147483648) ∧ Step [] w w' := by
  refine (left_any b 0 2147483648 (by omega) (by omega) (by omega) w h).mono ?_
  rintro e w' ⟨rfl, n, rfl⟩
  exact ⟨rfl, Step.drewN _ _⟩

theorem firstAllL (f t m : Nat) (F T : Int) (r : List Nat) (hF : F = f) (hT : T = t) (hr : (List.range' f (t - f)).take m = r) (hf : f < 4294967296) (ht : t < 4294967296) (hmm : m ≤ 1000) (w w1 : World) (hw1 : w.alloc (.cells #[.int .u32 F, .int .u32 T] 25) = w1) :
    Calls Try.prog 26 #[.func (.func 87) #[] #[.pointer (some ⟨w.heap.size, 0, none⟩)], .int .i64 (m : Int)] w1 fun e W' => ∃ ao cap, e = .returned (.slice ao r.length cap) ∧ IsN .u32 W' (.slice ao r.length cap) r ∧ Step [] w W' := by
  subst hF; subst hT
  refine (firstAll_any f t m hf ht hmm w w1 hw1).mono ?_
  rintro e W' ⟨v, rfl, hv, hs⟩
  rw [hr] at hv
  obtain ⟨ao, cap, rfl⟩ := ownU_slice hv
  exact ⟨ao, cap, rfl, hv.isN, hs⟩
theorem firstToldL (ack mask : Nat) (A M : Int) (r : List Nat) (hA : A = ack) (hM : M = mask) (hr : toldL ack mask = r) (ha : ack < 4294967296) (hm : mask < 4294967296) (w : World) (w1 : World)
    (hw1 : ((((w.alloc (.cells #[.int .u32 A] 22)).alloc (.cells #[.int .u32 M] 22)).alloc (.cells #[.int .u32 A] 22)).alloc (.cells #[.func (.func 108) #[] #[.pointer (some ⟨w.heap.size + 1 + 1, 0, none⟩)]] 28)).alloc (.cells #[.func (.func 89) #[] #[.pointer (some ⟨w.heap.size + 1, 0, none⟩), .pointer (some ⟨w.heap.size, 0, none⟩)]] 27) = w1) (m : Nat) (hr9 : r.take m = r) (hmm : m ≤ 1000) :
    Calls Try.prog 26 #[.func (.func 107) #[] #[.pointer (some ⟨w.heap.size + 1 + 1 + 1, 0, none⟩), .pointer (some ⟨w.heap.size + 1 + 1 + 1 + 1, 0, none⟩)], .int .i64 (m : Int)] w1 fun e W' => ∃ ao cap, e = .returned (.slice ao r.length cap) ∧ IsN .u32 W' (.slice ao r.length cap) r ∧ Step [] w W' := by
  subst hA; subst hM
  obtain ⟨hz, hs1, b0, b1, b2, b3, b4⟩ := told_blocks _ _ _ _ hw1
  refine (first_any (told_gives ack mask w.heap.size ha hm) enters107 m hmm w1 ?_).mono ?_
  · intro W' hs
    exact ⟨boxed_step b2 hs (by simp), ⟨boxed_step b3 hs (by simp), boxed_step b4 hs (by simp)⟩, boxed_step b1 hs (by simp), boxed_step b0 hs (by simp)⟩
  · rintro e W' ⟨v, rfl, hv, hs⟩
    rw [hr, hr9] at hv
    obtain ⟨ao, cap, rfl⟩ := ownU_slice hv
    exact ⟨ao, cap, rfl, hv.isN, hs1.trans hs⟩
theorem isN_lit (W Wa : World) (xs : List Nat) (k : IntKind) (T : Nat) (hx : xs.length ≤ 1000) (h : W.alloc (.cells ((xs.map fun (x : Nat) => Value.int k (x : Int)).toArray) T) = Wa) : IsN k Wa (.slice (some ⟨W.heap.size, 0, none⟩) xs.length xs.length) xs := by
  refine ⟨_, xs.length, rfl, by omega, by simp [maxLen]; omega, fun _ => ⟨_, _, rfl, fun i hi => ?_⟩⟩
  rw [← h]
  simp only [World.cell?_alloc_new, Nat.zero_add]
  simp [hi]
theorem equal_lit (v v2 : Value) (xs : List Nat) (W Wa : World) (hb : Step [] W Wa) (h : IsN .u32 W v xs) (h2 : IsN .u32 Wa v2 xs) :
    Calls Try.prog 20 #[v, v2] Wa fun e w' => e = .returned (.bool true) ∧ Step [] W w' := by
  refine (equal_any _ _ xs xs _ (isN_step (S := []) h hb) h2).mono ?_
  rintro e w' ⟨rfl, n, rfl⟩
  exact ⟨by simp, hb.trans (Step.drewN _ _)⟩
theorem equal1 (ao : Option Addr) (cap : Nat) (n : Nat) (N : Int) (hN : N = n) (W : World) (h : IsN .u32 W (.slice ao 1 cap) [n]) :
    Calls Try.prog 20 #[.slice ao 1 cap, .slice (some ⟨W.heap.size, 0, none⟩) 1 1] (W.alloc (.cells #[.int .u32 N] 22)) fun e w' => e = .returned (.bool true) ∧ Step [] W w' := by
  subst hN
  exact equal_lit _ _ [n] W _ (Step.alloc _ _) h (isN_lit W _ [n] .u32 22 (by simp) rfl)
theorem equal2 (ao : Option Addr) (cap : Nat) (n m : Nat) (N M : Int) (hN : N = n) (hM : M = m) (W : World) (h : IsN .u32 W (.slice ao 2 cap) [n, m]) :
    Calls Try.prog 20 #[.slice ao 2 cap, .slice (some ⟨W.heap.size, 0, none⟩) 2 2] (W.alloc (.cells #[.int .u32 N, .int .u32 M] 22)) fun e w' => e = .returned (.bool true) ∧ Step [] W w' := by
  subst hN; subst hM
  exact equal_lit _ _ [n, m] W _ (Step.alloc _ _) h (isN_lit W _ [n, m] .u32 22 (by simp) rfl)
theorem spanLenL (F T : Int) (f t : Nat) (r : Int) (hF : F = f) (hT : T = t) (hr : ((t - f : Nat) : Int) = r) (h1 : f < 4294967296) (h3 : t < 4294967296) (w : World) :
    Calls Try.prog 21 #[.agg #[.int .u32 F, .int .u32 T]] w fun e w' => e = .returned (.int .i64 r) ∧ Step [] w w' := by
  subst hF; subst hT; subst hr
  exact spanLen_any f t w h1 h3

theorem hasNot (w : World) : Calls Try.prog 22 #[.agg #[.int .u32 5, .int .u32 4294967295], .int .u32 4294967295] w fun e w' => e = .returned (.bool false) ∧ Step [] w w' := by
  refine (spanHas_any 5 4294967295 4294967295 w).mono ?_
  rintro e w' ⟨rfl, hs⟩
  exact ⟨rfl, hs⟩

set_option maxRecDepth 100000 in
set_option maxHeartbeats 4000000 in
theorem known_walk (w : World) : Calls Try.prog 9 #[] w fun e w' => e = .returned (.bool true) ∧ Step [] w w' := by
  have hs0 : SpaceAt (w.alloc (spaceObj 92 0 0)) w.heap.size 0 0 := by unfold SpaceAt; rw [heap_alloc_get, if_pos rfl]
  have hst0 : Step [] w (w.alloc (spaceObj 92 0 0)) := Step.alloc _ _
  have HZ := Lib.hid hs0
  have HS := Lib.hid hst0
  clear hs0 hst0
  go_enter Try.func9, Try.ntmps9
  go_wp2_with fail
  refine (next_nil _).mono ?_
  rintro e w1 ⟨rfl, hs⟩
  replace HS := Lib.hid (HS.out.trans hs)
  replace HZ := Lib.hid (show SpaceAt w1 w.heap.size 0 0 from obj_step HZ.out hs (by simp))
  clear hs
  go_wp2_with fail
  refine (next_zero w.heap.size 0 _ HZ.out).mono ?_
  rintro e w2 ⟨rfl, hs⟩
  replace HS := Lib.hid (HS.out.trans hs)
  replace HZ := Lib.hid (show SpaceAt w2 w.heap.size 0 0 from obj_step HZ.out hs (by simp))
  clear hs
  go_wp2_with fail
  refine (newBad0 w2).mono ?_
  rintro e w3 ⟨rfl, hs⟩
  replace HS := Lib.hid (HS.out.trans hs)
  replace HZ := Lib.hid (show SpaceAt w3 w.heap.size 0 0 from obj_step HZ.out hs (by simp))
  clear hs
  go_wp2_with fail
  refine (newBad1 w3).mono ?_
  rintro e w4 ⟨rfl, hs⟩
  replace HS := Lib.hid (HS.out.trans hs)
  replace HZ := Lib.hid (show SpaceAt w4 w.heap.size 0 0 from obj_step HZ.out hs (by simp))
  clear hs
  go_wp2_with fail
  refine (spaceNew_ok 2147483648 (by omega) (by omega) w4).mono ?_
  rintro e w5 ⟨rfl, hw5⟩
  have hn : SpaceAt w5 w4.heap.size 0 2147483648 := by rw [← hw5]; unfold SpaceAt; rw [heap_alloc_get, if_pos rfl]
  have hs : Step [] w4 w5 := by rw [← hw5]; exact Step.alloc _ _
  replace HS := Lib.hid (HS.out.trans hs)
  replace HZ := Lib.hid (show SpaceAt w5 w.heap.size 0 0 from obj_step HZ.out hs (by simp))
  have HN := Lib.hid hn
  clear hs hn hw5
  go_wp2_with fail
  refine (used_nil _).mono ?_
  rintro e w6 ⟨rfl, hs⟩
  replace HS := Lib.hid (HS.out.trans hs)
  replace HZ := Lib.hid (show SpaceAt w6 w.heap.size 0 0 from obj_step HZ.out hs (by simp))
  replace HN := Lib.hid (show SpaceAt w6 w4.heap.size 0 2147483648 from obj_step HN.out hs (by simp))
  clear hs
  go_wp2_with fail
  refine (left_zero w.heap.size 0 _ HZ.out).mono ?_
  rintro e w7 ⟨rfl, hs⟩
  replace HS := Lib.hid (HS.out.trans hs)
  replace HZ := Lib.hid (show SpaceAt w7 w.heap.size 0 0 from obj_step HZ.out hs (by simp))
  replace HN := Lib.hid (show SpaceAt w7 w4.heap.size 0 2147483648 from obj_step HN.out hs (by simp))
  clear hs
  go_wp2_with fail
  refine (leftNew w4.heap.size _ HN.out).mono ?_
  rintro e w8 ⟨rfl, hs⟩
  replace HS := Lib.hid (HS.out.trans hs)
  clear hs HZ HN
  go_wp2_with fail
  try simp only [List.append_eq, List.cons_append, List.nil_append]
  go_wp2_with fail
  refine (spanLenL _ _ 9 9 0 rfl rfl rfl (by omega) (by omega) _).mono ?_
  rintro e w9 ⟨rfl, hs⟩
  replace HS := Lib.hid (HS.out.trans hs)
  clear hs
  go_wp2_with fail
  refine (spanLenL _ _ 9 3 0 rfl rfl rfl (by omega) (by omega) _).mono ?_
  rintro e w10 ⟨rfl, hs⟩
  replace HS := Lib.hid (HS.out.trans hs)
  clear hs
  go_wp2_with fail
  refine (all_any _ _ _).mono ?_
  rintro e w11 ⟨rfl, hs⟩
  have HW := Lib.hid hs
  clear hs
  go_wp2_with fail
  refine (firstAllL 9 3 5 _ _ [] rfl rfl rfl (by omega) (by omega) (by omega) w10 _ HW.out).mono ?_
  rintro e w12 ⟨ao1, cap1, rfl, hv, hs⟩
  replace HS := Lib.hid (HS.out.trans hs)
  clear hs hv HW
  go_wp2_with fail
  refine (spanLenL _ _ 0 4294967295 4294967295 rfl rfl rfl (by omega) (by omega) _).mono ?_
  rintro e w13 ⟨rfl, hs⟩
  replace HS := Lib.hid (HS.out.trans hs)
  clear hs
  go_wp2_with fail
  refine (hasNot w13).mono ?_
  rintro e w14 ⟨rfl, hs⟩
  replace HS := Lib.hid (HS.out.trans hs)
  clear hs
  go_wp2_with fail
  refine (mask_yes 4294967295 _ 0 (by omega) rfl yes1 _).mono ?_
  rintro e w15 ⟨rfl, hs⟩
  replace HS := Lib.hid (HS.out.trans hs)
  clear hs
  go_wp2_with fail
  refine (mask_yes 4294967294 _ 1 (by omega) rfl yes2 _).mono ?_
  rintro e w16 ⟨rfl, hs⟩
  replace HS := Lib.hid (HS.out.trans hs)
  clear hs
  go_wp2_with fail
  refine (mask_yes 0 _ 4294967295 (by omega) rfl yes3 _).mono ?_
  rintro e w17 ⟨rfl, hs⟩
  replace HS := Lib.hid (HS.out.trans hs)
  clear hs
  go_wp2_with fail
  refine (told_any _ _ _).mono ?_
  rintro e w18 ⟨rfl, hs⟩
  have HW := Lib.hid hs
  clear hs
  go_wp2_with fail
  refine (firstToldL 4294967293 4294967295 _ _ [4294967294, 4294967295] rfl rfl told1 (by omega) (by omega) w17 _ HW.out 9 rfl (by omega)).mono ?_
  rintro e w19 ⟨ao19, cap19, rfl, hv, hs⟩
  replace HS := Lib.hid (HS.out.trans hs)
  have HV := Lib.hid hv
  clear hs hv HW
  go_wp2_with fail
  refine (equal2 _ _ 4294967294 4294967295 _ _ rfl rfl _ HV.out).mono ?_
  rintro e w20 ⟨rfl, hs⟩
  replace HS := Lib.hid (HS.out.trans hs)
  clear hs HV
  go_wp2_with fail
  refine (told_any _ _ _).mono ?_
  rintro e w21 ⟨rfl, hs⟩
  have HW := Lib.hid hs
  clear hs
  go_wp2_with fail
  refine (firstToldL 7 2147483648 _ _ [39] rfl rfl told2 (by omega) (by omega) w20 _ HW.out 9 rfl (by omega)).mono ?_
  rintro e w22 ⟨ao22, cap22, rfl, hv, hs⟩
  replace HS := Lib.hid (HS.out.trans hs)
  have HV := Lib.hid hv
  clear hs hv HW
  go_wp2_with fail
  refine (equal1 _ _ 39 _ rfl _ HV.out).mono ?_
  rintro e w23 ⟨rfl, hs⟩
  replace HS := Lib.hid (HS.out.trans hs)
  clear hs HV
  go_wp2_with fail
  refine (all_any _ _ _).mono ?_
  rintro e w24 ⟨rfl, hs⟩
  have HW := Lib.hid hs
  clear hs
  go_wp2_with fail
  refine (firstAllL 4294967294 4294967295 9 _ _ [4294967294] rfl rfl rfl (by omega) (by omega) (by omega) w23 _ HW.out).mono ?_
  rintro e w25 ⟨ao25, cap25, rfl, hv, hs⟩
  replace HS := Lib.hid (HS.out.trans hs)
  have HV := Lib.hid hv
  clear hs hv HW
  go_wp2_with fail
  refine (equal1 _ _ 4294967294 _ rfl _ HV.out).mono ?_
  rintro e w26 ⟨rfl, hs⟩
  replace HS := Lib.hid (HS.out.trans hs)
  clear hs HV
  go_wp2_with fail
  refine (wakes_any _).mono ?_
  rintro e w27 ⟨rfl, hs⟩
  replace HS := Lib.hid (HS.out.trans hs)
  clear hs
  go_wp2_with fail
  go_ret
  exact ⟨rfl, HS.out⟩
end Go.Proofs.Ytbainekfbonbjaa
