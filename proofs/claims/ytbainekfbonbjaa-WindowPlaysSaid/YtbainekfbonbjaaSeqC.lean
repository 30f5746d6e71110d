/- Questions of numbers, filtered iterators, bits: contracts and plain laws. -/
import Derived.Test.YtbainekfbonbjaaSeqB
import Derived.OwnWalkIn
import Derived.TacticsInMore
import Derived.LoopNIn
import Derived.LoopIn
import Derived.Deep.QuietTactic
import Derived.BigQuiet
import Derived.Maps.OwnIn
namespace Go.Proofs.Ytbainekfbonbjaa
open Go.RowKit Go.Shelf
set_option linter.unusedVariables false
attribute [local go_sem] Oper.semAt_some

/-- A function value (sf over slb) that asks of a number: q, and nothing that lay has turned. Rs: what it reads. -/
def Asks (sf : Nat) (slb : Array Value) (q : Nat → Bool) (D : Nat → Prop) (Rs : World → Prop) : Prop :=
  ∀ (x : Nat) (W : World), D x → Rs W → Calls Try.prog sf (#[.int .u32 (x : Int)] ++ slb) W fun e W' => e = .returned (.bool (q x)) ∧ Step [] W W'

theorem Step.calm0 {B : Nat} {W W' : World} (h : Step [] W W') : Calm B W W' :=
  ⟨h.os, h.tape, h.output, h.size, fun k o hk _ => (h.same k (heap_lt hk) (by simp)).trans hk⟩

theorem filter_prefix {pre xs : List Nat} (q : Nat → Bool) (h : pre <+: xs) : pre.filter q <+: xs.filter q := by
  obtain ⟨t, rfl⟩ := h; exact ⟨t.filter q, by simp⟩

theorem those_gives {gf : Nat} {lb : Array Value} {xs : List Nat} {Rd : World → Prop} {D : Nat → Prop} (hxs : ∀ x ∈ xs, D x)
    (hgive : Gives Try.prog gf lb encU (fun pre x => pre ++ [x] <+: xs) (fun ys => ys = xs) Rd) (eg : Enters Try.prog gf) {sf : Nat} {slb : Array Value} (es : Enters Try.prog sf) (q : Nat → Bool) {Rs : World → Prop} (hq : Asks sf slb q D Rs) (ba bs : Nat) :
    Gives Try.prog 107 #[.pointer (some ⟨ba, 0, none⟩), .pointer (some ⟨bs, 0, none⟩)] encU (fun pre x => pre ++ [x] <+: xs.filter q) (fun ys => ys = xs.filter q)
      (fun W => Rd W ∧ (Boxed W ba 28 (.func (.func gf) #[] lb) ∧ Boxed W bs 27 (.func (.func sf) #[] slb)) ∧ Rs W) := by
  intro l J Jx W X hX hJ hJx hR hY h0
  refine (those_calls hgive eg es q ba bs l (fun pre => J (pre.filter q)) (fun pre => Jx (pre.filter q)) (fun pre _ => J (pre.filter q)) W X hX (fun s A B h hc => hJ _ A B h hc) (fun s A B h hc => hJx _ A B h hc)
    (fun pre W' h => ⟨(hR _ _ h).1, (hR _ _ h).2.1⟩) ?_ ?_ ?_ h0).mono ?_
  · intro pre x W' hj ha
    have hx := hxs x (ha.subset (by simp))
    refine (hq x W' hx (hR _ _ hj).2.2).mono ?_
    rintro e W'' ⟨rfl, hs⟩
    exact ⟨rfl, hJ _ _ _ hj hs.calm0, hs.book.nil⟩
  · intro pre x W' hq' ha hj
    simpa [hq'] using hj
  · intro pre x W' hq' ha hj
    have hp := filter_prefix q ha
    simp [hq'] at hp
    have := hY (pre.filter q) x W' hj hp
    refine YieldAt.mono this ?_
    rintro e W'' ⟨h1, h2⟩
    refine ⟨?_, h2⟩
    rcases h1 with ⟨rfl, h⟩ | ⟨rfl, h⟩
    · exact .inl ⟨rfl, by simpa [hq'] using h⟩
    · exact .inr ⟨rfl, by simpa [hq'] using h⟩
  · rintro e W' ⟨hv, (⟨ys, rfl, hj⟩ | ⟨pre, hj⟩)⟩
    · exact ⟨hv, .inl ⟨_, rfl, hj⟩⟩
    · exact ⟨hv, .inr ⟨_, hj⟩⟩

/-- Is a number told by a mask? -/
def tells (ack mask n : Nat) : Bool := mask / 2 ^ (n - ack - 1) % 2 == 1

set_option maxRecDepth 100000 in
set_option maxHeartbeats 1000000 in
theorem told1_any (ack mask x bm ba : Nat) (w : World) (ha : ack < 4294967296) (hm : mask < 4294967296) (h1 : ack < x) (h2 : x ≤ ack + 32) (h3 : x < 4294967296)
    (hbm : Boxed w bm 22 (.int .u32 (mask : Int))) (hba : Boxed w ba 22 (.int .u32 (ack : Int))) :
    Calls Try.prog 89 #[.int .u32 (x : Int), .pointer (some ⟨bm, 0, none⟩), .pointer (some ⟨ba, 0, none⟩)] w fun e w' => e = .returned (.bool (tells ack mask x)) ∧ w = w' := by
  have c1 := hbm.cell
  have c2 := hba.cell
  go_enter Try.func89, Try.ntmps89
  go_wp2
  go_ret
  refine ⟨?_, rfl⟩
  have e : ((mask : Int) / 2 ^ (x - ack - 1)) = ((mask / 2 ^ (x - ack - 1) : Nat) : Int) := by push_cast; rfl
  have hlt : mask / 2 ^ (x - ack - 1) < 4294967296 := Nat.lt_of_le_of_lt (Nat.div_le_self _ _) hm
  have e2 : (bits BinOp.and IntKind.u32 ((mask : Int) / 2 ^ (x - ack - 1)) 1 == 1) = tells ack mask x := by
    rw [e, show (1 : Int) = ((1 : Nat) : Int) from rfl, u32_and_nat _ _ hlt (by omega), Nat.and_one_is_mod]
    unfold tells
    rw [Bool.eq_iff_iff]; simp; omega
  simp [e2]

set_option maxRecDepth 100000 in
set_option maxHeartbeats 1000000 in
theorem has_any (v : Value) (xs : List Nat) (n : Nat) (w : World) (h1 : IsN .u32 w v xs) :
    Calls Try.prog 86 #[v, .int .u32 (n : Int)] w fun e w' => e = .returned (.bool (decide (n ∈ xs))) ∧ w = w' := by
  obtain ⟨p, c1, rfl, hl1, hm1, hc1⟩ := h1
  unfold maxLen at hm1
  have HC1 := Lib.hid hc1
  clear hc1
  go_enter Try.func86, Try.ntmps86
  go_wp2
  go_loop [5] (fun i => ∃ k : Nat, k ≤ xs.length ∧ i = .int .i64 k ∧ Hid (n ∉ xs.take k)) (fun i => xs.length - (intOf i).toNat)
  case atStart => exact ⟨0, by omega, rfl, by simp [Hid]⟩
  case round =>
    obtain ⟨k, hk, rfl, hj⟩ := hrel
    by_cases hlt : k < xs.length
    · obtain ⟨b1, o1, rfl, hc1⟩ := HC1.out (by intro h; subst h; simp at hlt)
      have e1 := hc1 k hlt
      clear hc1
      have hsn : xs.take (k + 1) = xs.take k ++ [xs[k]?.getD 0] := by rw [List.take_succ_eq_append_getElem hlt]; simp [List.getElem?_eq_getElem hlt]
      have hmem : xs[k]?.getD 0 ∈ xs := by simp [List.getElem?_eq_getElem hlt]
      generalize xs[k]?.getD 0 = y at *
      have HSN := Lib.hid hsn
      have HM := Lib.hid hmem
      clear hsn hmem
      by_cases heq : y = n
      · subst heq
        have hb : ((y : Int) == (y : Int)) = true := by simp
        go_wp2
        go_ret
        exact ⟨by simp [HM.out], rfl⟩
      · have hb : ((y : Int) == (n : Int)) = false := by simp; omega
        go_wp2
        go_round
        case rel => exact ⟨k + 1, by omega, by go_num, by rw [HSN.out]; simp [Hid]; exact ⟨hj.out, fun h => heq h.symm⟩⟩
        case measure => simp [intOf]; omega
    · have hc : decide (n ∈ xs) = false := by
        have := hj.out; rw [List.take_of_length_le (by omega)] at this; simpa using this
      have HC := Lib.hid hc
      clear hc
      go_wp2
      go_ret
      exact ⟨by rw [HC.out]; rfl, rfl⟩

/-! ### Bits: plain -/
def bitsSum (ack : Nat) (l : List Nat) : Nat := (l.map fun n => 2 ^ (n - ack - 1)).sum
theorem bitsSum_snoc (ack : Nat) (l : List Nat) (x : Nat) : bitsSum ack (l ++ [x]) = bitsSum ack l + 2 ^ (x - ack - 1) := by simp [bitsSum]
/-- What a mask of the numbers behind ack that are so is. -/
def maskOf (ack : Nat) (q : Nat → Bool) : Nat := bitsSum ack ((List.range' (ack + 1) (behindLen ack)).filter q)

theorem bitsSum_lt_aux (ack : Nat) : ∀ (r : List Nat) (x : Nat), r.Pairwise (· > ·) → (∀ y ∈ r, ack < y ∧ y < x) → bitsSum ack r.reverse < 2 ^ (x - ack - 1)
  | [], x, _, _ => by simp [bitsSum]; exact Nat.two_pow_pos _
  | y :: r, x, hp, hb => by
    rw [List.reverse_cons, bitsSum_snoc]
    rw [List.pairwise_cons] at hp
    have h1 := hb y (by simp)
    have ih := bitsSum_lt_aux ack r y hp.2 (fun z hz => ⟨(hb z (by simp [hz])).1, hp.1 z hz⟩)
    have h2 : 2 ^ (y - ack - 1) + 2 ^ (y - ack - 1) = 2 ^ (y - ack - 1 + 1) := by rw [Nat.pow_succ]; omega
    have h3 : 2 ^ (y - ack - 1 + 1) ≤ 2 ^ (x - ack - 1) := Nat.pow_le_pow_right (by omega) (by omega)
    omega
theorem bitsSum_lt (ack : Nat) (l : List Nat) (x : Nat) (hp : l.Pairwise (· < ·)) (hb : ∀ y ∈ l, ack < y ∧ y < x) : bitsSum ack l < 2 ^ (x - ack - 1) := by
  have := bitsSum_lt_aux ack l.reverse x (by rw [List.pairwise_reverse]; exact hp) (by simpa using hb)
  simpa using this

theorem range'_mem {f m x : Nat} (h : x ∈ List.range' f m) : f ≤ x ∧ x < f + m := by
  rw [List.mem_range'_1] at h; exact h
theorem range'_lt (f m : Nat) : (List.range' f m).Pairwise (· < ·) := List.pairwise_lt_range' ..
theorem behind_le (ack : Nat) : behindLen ack ≤ 32 := by unfold behindLen; omega
theorem behind_max (ack : Nat) (h : ack < 4294967296) : ack + behindLen ack < 4294967296 := by unfold behindLen; omega

theorem next_behind {ack : Nat} (ha : ack < 4294967296) {q : Nat → Bool} {pre : List Nat} {x : Nat} (h : pre ++ [x] <+: (List.range' (ack + 1) (behindLen ack)).filter q) :
    ack < x ∧ x ≤ ack + 32 ∧ x < 4294967296 ∧ bitsSum ack pre < 2 ^ (x - ack - 1) := by
  have hx : x ∈ (List.range' (ack + 1) (behindLen ack)).filter q := h.subset (by simp)
  have hm := range'_mem ((List.mem_filter.1 hx).1)
  have hl := behind_le ack
  have hmx := behind_max ack ha
  have hp : (pre ++ [x]).Pairwise (· < ·) := List.Pairwise.sublist h.sublist ((range'_lt _ _).filter _)
  rw [List.pairwise_append] at hp
  refine ⟨by omega, by omega, by omega, bitsSum_lt ack pre x hp.1 (fun y hy => ⟨?_, hp.2.2 y hy x (by simp)⟩)⟩
  have := range'_mem (List.mem_filter.1 (h.subset (List.mem_append_left _ hy))).1
  omega

theorem maskOf_lt (ack : Nat) (q : Nat → Bool) : maskOf ack q < 4294967296 := by
  have h := bitsSum_lt ack ((List.range' (ack + 1) (behindLen ack)).filter q) (ack + 33) ((range'_lt _ _).filter _) (fun y hy => by
    have := range'_mem (List.mem_filter.1 hy).1
    have := behind_le ack
    omega)
  have e : ack + 33 - ack - 1 = 32 := by omega
  rw [e] at h
  exact h

theorem or_bit {a k : Nat} (h : a < 2 ^ k) : a ||| 2 ^ k = a + 2 ^ k := by
  rw [Nat.or_comm]
  have := Nat.two_pow_add_eq_or_of_lt h 1
  rw [Nat.mul_one] at this
  omega

end Go.Proofs.Ytbainekfbonbjaa
