/- WindowKeeps: what its rounds keep. No statement is proved here; nothing is assumed. -/
import Derived.Test.YtbainekfbonbjaaWinP
import Derived.Laws.Bits128
import Derived.Deep.CutRange
namespace Go.Proofs.Ytbainekfbonbjaa
open Go.RowKit Go.Shelf
set_option linter.unusedVariables false
set_option linter.unusedSimpArgs false
attribute [local go_sem] Oper.semAt_some

/-- What the statement's own map has: the payload, as it came in. -/
def PutIs (w : World) (k : Nat) (v : Value) (x : Rec6) : Prop := ∃ q n c, v = .slice q n c ∧ n ≤ c ∧ c ≤ maxLen ∧ n = x.1.length ∧ (∀ y ∈ x.1, y < 256) ∧ Reads w v (u8s x.1)
/-- What the rounds of WindowKeeps keep: u numbers given, the time nw, c rounds made. -/
structure KpAt (w : World) (b sp bm kb u lim nw c : Nat) (M Mk : Ents) (g : Kept6) (W : World) : Prop where
  win : WinM w.heap.size W b sp bm u lim 3 40 M g
  m : MapV W kb Mk
  k : RepW (PutIs w) Mk g
  lo : w.heap.size ≤ kb
  ne : kb ≠ bm
  st : Step [] w W
  n : M.length ≤ 16
  at_ : ∀ k x, g k = some x → x.2.2 ≤ nw + 40 ∧ x.2.1 ≤ c
section
variable {w W W' : World} {b sp bm kb u lim nw c : Nat} {M Mk : Ents} {g : Kept6}
theorem KpAt.same (h : KpAt w b sp bm kb u lim nw c M Mk g W) (hs : Step [] W W') : KpAt w b sp bm kb u lim nw c M Mk g W' :=
  ⟨h.win.same hs, h.m.keep hs (by simp), h.k, h.lo, h.ne, h.st.trans hs, h.n, h.at_⟩
theorem KpAt.later (h : KpAt w b sp bm kb u lim nw c M Mk g W) {nw' : Nat} (hn : nw ≤ nw') : KpAt w b sp bm kb u lim nw' c M Mk g W :=
  ⟨h.win, h.m, h.k, h.lo, h.ne, h.st, h.n, fun k x hx => ⟨by have := (h.at_ k x hx).1; omega, (h.at_ k x hx).2⟩⟩
theorem KpAt.more (h : KpAt w b sp bm kb u lim nw c M Mk g W) : KpAt w b sp bm kb u lim nw (c + 1) M Mk g W :=
  ⟨h.win, h.m, h.k, h.lo, h.ne, h.st, h.n, fun k x hx => ⟨(h.at_ k x hx).1, by have := (h.at_ k x hx).2; omega⟩⟩
theorem KpAt.len (h : KpAt w b sp bm kb u lim nw c M Mk g W) : Mk.length = M.length := by rw [h.k.len h.win.kb, h.win.len]
theorem KpAt.kbs (h : KpAt w b sp bm kb u lim nw c M Mk g W) : kb ≠ b ∧ kb ≠ sp := by
  obtain ⟨es, cl, hb⟩ := h.m.block
  refine ⟨fun e => ?_, fun e => ?_⟩
  · have := h.win.o; rw [← e, hb] at this; cases this
  · have : W.heap[sp]? = some (spaceObj 92 u lim) := h.win.s
    rw [← e, hb] at this; cases this
/-- A put, on both sides. -/
theorem KpAt.put {W2 W3 : World} {M' : Ents} {p : List Nat} {q : Option Addr} {n cc : Nat} (h : KpAt w b sp bm kb u lim nw c M Mk g W) (hn : M.length < 16)
    (h1 : WinM w.heap.size W2 b sp bm (u + 1) lim 3 40 M' (setG g u (some (p, 0, nw)))) (hl : M'.length = M.length + 1) (hs : Step [sp, bm] W W2)
    (hp : PutIs w u (.slice q n cc) (p, 0, nw)) (hm : MapV W3 kb (putE Mk u (.slice q n cc))) (hs3 : Step [kb] W2 W3) :
    KpAt w b sp bm kb (u + 1) lim nw c M' (putE Mk u (.slice q n cc)) (setG g u (some (p, 0, nw))) W3 := by
  have hk2 := h.m.keep hs (by simp; exact ⟨h.kbs.2, h.ne⟩)
  obtain ⟨es, cl, hb⟩ := hk2.block
  refine ⟨h1.step hs3 (fun i hi => ?_), hm, h.k.put hp, h.lo, h.ne, ?_, by omega, fun k x hx => ?_⟩
  · simp at hi
    subst hi
    exact ⟨h.kbs.1, h.kbs.2, h.ne, fun cur hc => by rw [hb] at hc; cases hc⟩
  · have h2 := h.st.trans' hs (fun _ h _ => h) (fun i hi hl => by have := h.win.lo; simp at hi; rcases hi with rfl | rfl <;> omega)
    exact h2.trans' hs3 (fun _ h _ => h) (fun i hi hl => by have := h.lo; simp at hi; omega)
  · by_cases e : k = u
    · rw [e, setG_same] at hx
      cases hx
      exact ⟨by show nw ≤ nw + 40; omega, by show 0 ≤ c; omega⟩
    · rw [setG_other _ _ e] at hx
      exact h.at_ k x hx
/-- Due. -/
theorem KpAt.due {M' : Ents} (h : KpAt w b sp bm kb u lim nw c M Mk g W) (h1 : WinM w.heap.size W' b sp bm u lim 3 40 M' (dueG 3 40 nw g)) (hl : M'.length = M.length) (hs : Step [bm] W W') :
    KpAt w b sp bm kb u lim nw (c + 1) M' Mk (dueG 3 40 nw g) W' := by
  refine ⟨h1, h.m.keep hs (by simp; exact h.ne), ⟨h.k.nd, fun k v hv => ?_, fun k x hx => ?_⟩, h.lo, h.ne, low6 h.st hs h.win.lo.2.2, by have := h.n; omega, fun k x hx => ?_⟩
  · obtain ⟨x, hx, q, n, cc, e1, e2, e3, e4, e5, e6⟩ := h.k.to k v hv
    refine ⟨dueX 3 40 nw x, by unfold dueG; rw [hx]; rfl, q, n, cc, e1, e2, e3, ?_, ?_, ?_⟩
    all_goals (unfold dueX; split <;> assumption)
  · unfold dueG at hx
    cases e : g k with
    | none => rw [e] at hx; simp at hx
    | some y => exact h.k.fro k y e
  · unfold dueG at hx
    cases e : g k with
    | none => rw [e] at hx; simp at hx
    | some y =>
      rw [e] at hx
      simp at hx
      obtain ⟨a1, a2⟩ := h.at_ k y e
      subst hx
      unfold dueX
      split
      · refine ⟨?_, by show y.2.1 + 1 ≤ c + 1; omega⟩
        show nw + waitN 3 40 (y.2.1 + 1) ≤ nw + 40
        unfold waitN; omega
      · exact ⟨a1, by omega⟩
/-- Ack. -/
theorem KpAt.ack {M' Mk' : Ents} {ack mask : Nat} {W2 : World} (h : KpAt w b sp bm kb u lim nw c M Mk g W) (hk : MapV W2 kb Mk') (hks : Step [kb] W W2) (hr : RepW (PutIs w) Mk' (ackG ack mask g))
    (h1 : WinM w.heap.size W' b sp bm u lim 3 40 M' (ackG ack mask g)) (hl : M'.length ≤ M.length) (hs : Step [bm] W2 W') :
    KpAt w b sp bm kb u lim nw c M' Mk' (ackG ack mask g) W' := by
  refine ⟨h1, hk.keep hs (by simp; exact h.ne), hr, h.lo, h.ne, ?_, by have := h.n; omega, fun k x hx => ?_⟩
  · have h2 : Step [] w W2 := h.st.trans' hks (fun _ h _ => h) (fun i hi hl => by have := h.lo; simp at hi; omega)
    exact low6 h2 hs h.win.lo.2.2
  · unfold ackG at hx
    split at hx
    · cases hx
    · exact h.at_ k x hx
end
/-- Time is brought to rise. -/
theorem and63 (n : Int) : bits .and .i64 n 63 = n % 64 := by
  have h63 : (BitVec.ofInt 64 63).toNat = 2 ^ 6 - 1 := by decide
  have key : (BitVec.ofInt 64 n &&& BitVec.ofInt 64 63).toNat = (n % ((2 ^ 64 : Nat) : Int)).toNat % 2 ^ 6 := by
    rw [BitVec.toNat_and, BitVec.toNat_ofInt, h63, Nat.and_two_pow_sub_one_eq_mod]
  show IntKind.i64.wrap ((BitVec.ofInt 64 n &&& BitVec.ofInt 64 63).toNat : Nat) = n % 64
  rw [key, IntKind.wrap_i64]
  omega
end Go.Proofs.Ytbainekfbonbjaa
