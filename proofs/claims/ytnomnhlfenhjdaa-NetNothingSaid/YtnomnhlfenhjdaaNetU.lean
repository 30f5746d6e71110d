/- NetNothing: maps of numbers as functions; what goes on, in plain words. No statement is proved here; nothing is assumed. -/
import Derived.Test.YtnomnhlfenhjdaaNetT
import Derived.Maps.Own
import Derived.Maps.Views
import Derived.Maps.OwnIn
import Derived.OpenShut
namespace Go.Proofs.Ytnomnhlfenhjdaa
open Go.RowKit Go.Shelf Go.Maps
set_option linter.unusedVariables false

theorem law3 : Keyed Try.prog 3 := int_keyed Try.underlying3
theorem zero3 (w : World) : (zeroValue 3).run Try.prog w = .ok (.int .i64 0) w := by kernel_rfl
theorem wfNat {k : Nat} (h : k < 9223372036854775808) : (Lit.int .i64 (k : Int)).wf = true := WalkArith.wf_i64 (by omega)

/-- Block m is a map of numbers of at most n entries: at key k it has f k. -/
def MapF (W : World) (m n : Nat) (f : Nat → Nat) : Prop :=
  ∃ D : DataW Unit, W.ownsMap Try.prog 3 (plainElem Try.prog 3) m n D ∧ ∀ k : Nat, k < 1000000 → D.atKey (.int .i64 (k : Int)) (.lit (.int .i64 0)) = .lit (.int .i64 (f k : Int))
set_option maxRecDepth 100000 in
theorem MapF.look {W : World} {m n : Nat} {f : Nat → Nat} (h : MapF W m n f) {k : Nat} (hk : k < 1000000) : (Instr.lookup 80 (.map (some m)) (.int .i64 (k : Int)) false).run Try.prog W = .ok (.int .i64 (f k : Int)) W := by
  obtain ⟨D, ho, hD⟩ := h
  obtain ⟨c, hrun, hat, _⟩ := ho.lookup_int law3 Try.underlying80 Try.underlying3 (zero3 W) (keyOf_int_mk Try.underlying3 (wfNat (show k < 9223372036854775808 by omega)))
  rw [hD k hk] at hat
  injection hat with h1
  injection h1 with _ h2
  rw [hrun, h2]
set_option maxRecDepth 100000 in
theorem MapF.put {W : World} {m n : Nat} {f : Nat → Nat} (h : MapF W m n f) (hn : n < 1000000) {k v : Nat} (hk : k < 1000000) (hv : v < 1000000) :
    ∃ W', (Instr.mapUpdate 80 (.map (some m)) (.int .i64 (k : Int)) (.int .i64 (v : Int))).run Try.prog W = .ok () W' ∧ MapF W' m (n + 1) (upd f k v) ∧ Step [m] W W' ∧ (∀ m' n' f', m' ≠ m → MapF W m' n' f' → MapF W' m' n' f') := by
  obtain ⟨D, ho, hD⟩ := h
  have hkey := keyOf_int_mk (P := Try.prog) Try.underlying3 (wfNat (show k < 9223372036854775808 by omega))
  obtain ⟨W', hrun, ho', hg⟩ := ho.update law3 Try.underlying80 (show n < maxLen by unfold maxLen; omega) hkey (plainElem_int Try.underlying3 (wfNat (show v < 9223372036854775808 by omega)))
  have hmap : ∃ es clock, W.heap[m]? = some (.map es clock) := by obtain ⟨es, clock, hb, _⟩ := ho; exact ⟨es, clock, hb⟩
  obtain ⟨es, clock, hb⟩ := hmap
  refine ⟨W', hrun, ⟨_, ho', fun j hj => ?_⟩, Step.grown hg (fun j hj => ?_), fun m' n' f' hne hm' => ?_⟩
  · unfold upd
    by_cases hjk : j = k
    · subst hjk
      rw [if_pos rfl, atKey_put_same (ho.isMap) (law3.key hkey)]
    · rw [if_neg hjk, atKey_put_other (by simp; omega), hD j hj]
  · cases hj
    exact ⟨.inl (by simp), fun o ho2 => by rw [hb] at ho2; cases ho2; rfl⟩
  · obtain ⟨D', ho2, hD'⟩ := hm'
    exact ⟨D', ho2.kept hg (by simpa using hne), hD'⟩
theorem MapF.made (w : World) : MapF (w.alloc (.map #[] 0)) w.heap.size 0 (fun _ => 0) :=
  ⟨.map [], World.ownsMap_made _ _ _ _, fun k _ => rfl⟩
theorem MapF.keep {W W' : World} {m n : Nat} {f : Nat → Nat} {S : List Nat} (h : MapF W m n f) (hs : Step S W W') (hm : m ∉ S) : MapF W' m n f := by
  obtain ⟨D, ⟨es, clock, hb, F, h1, h2⟩, hD⟩ := h
  exact ⟨D, ⟨es, clock, obj_step hb hs hm, F, h1, h2⟩, hD⟩
theorem MapF.calm {B : Nat} {W W' : World} {m n : Nat} {f : Nat → Nat} (h : MapF W m n f) (hc : Calm B W W') : MapF W' m n f := by
  obtain ⟨D, ⟨es, clock, hb, F, h1, h2⟩, hD⟩ := h
  exact ⟨D, ⟨es, clock, obj_calm hb hc rfl, F, h1, h2⟩, hD⟩
theorem MapF.keepB {B : Nat} {W W' : World} {m n : Nat} {f : Nat → Nat} (h : MapF W m n f) (hs : StepB B W W') : MapF W' m n f := by
  obtain ⟨D, ⟨es, clock, hb, F, h1, h2⟩, hD⟩ := h
  exact ⟨D, ⟨es, clock, hs.keep hb rfl, F, h1, h2⟩, hD⟩

/-! ### The plain law: L way: the numbers and marks of what waits; f way id: how often a number may still come -/
def cnt (id : Nat) (l : List (Nat × Nat)) : Nat := l.countP fun p => p.1 == id
def dat (way : Nat) (p : Nat × Nat) : List Value := u8s [way, 0, p.1, p.2]
structure Fair (k sent : Nat) (L : Nat → List (Nat × Nat)) (f : Nat → Nat → Nat) : Prop where
  ks : sent ≤ k
  el : ∀ way, way < 2 → ∀ p ∈ L way, p.1 ≤ sent ∧ p.2 < 2
  le : ∀ way, way < 2 → ∀ id, cnt id (L way) ≤ f way id
  fk : ∀ way, way < 2 → ∀ id, f way id ≤ k
  ln : ∀ way, way < 2 → (L way).length ≤ 64

theorem cnt_append (id : Nat) (l m : List (Nat × Nat)) : cnt id (l ++ m) = cnt id l + cnt id m := by simp [cnt, List.countP_append]
theorem cnt_one (id : Nat) (p : Nat × Nat) : cnt id [p] = if p.1 = id then 1 else 0 := by simp [cnt]
theorem cnt_erase (id : Nat) (l : List (Nat × Nat)) (i : Nat) (p : Nat × Nat) (h : l[i]? = some p) : cnt id (l.eraseIdx i) + (if p.1 = id then 1 else 0) = cnt id l := by
  have h1 := List.take_append_drop i l
  have hi := (List.getElem?_eq_some_iff.1 h).1
  have h2 : l.drop i = p :: l.drop (i + 1) := by
    rw [List.drop_eq_getElem_cons hi]
    congr 1
    exact (List.getElem?_eq_some_iff.1 h).2
  rw [List.eraseIdx_eq_take_drop_succ]
  conv => rhs; rw [← h1, h2]
  rw [cnt_append, cnt_append, show p :: l.drop (i + 1) = [p] ++ l.drop (i + 1) from rfl, cnt_append, cnt_one]
  omega
theorem cnt_erase_le (id : Nat) (l : List (Nat × Nat)) (i : Nat) : cnt id (l.eraseIdx i) ≤ cnt id l := List.Sublist.countP_le (List.eraseIdx_sublist l i)
theorem cnt_set (id : Nat) (l : List (Nat × Nat)) (i : Nat) (p q : Nat × Nat) (h : l[i]? = some p) (hq : q.1 = p.1) : cnt id (l.set i q) = cnt id l := by
  have h1 := List.take_append_drop i l
  have hi := (List.getElem?_eq_some_iff.1 h).1
  have h2 : l.drop i = p :: l.drop (i + 1) := by
    rw [List.drop_eq_getElem_cons hi]
    congr 1
    exact (List.getElem?_eq_some_iff.1 h).2
  rw [List.set_eq_take_append_cons_drop, if_pos hi]
  conv => rhs; rw [← h1, h2]
  rw [cnt_append, cnt_append, show p :: l.drop (i + 1) = [p] ++ l.drop (i + 1) from rfl, show q :: l.drop (i + 1) = [q] ++ l.drop (i + 1) from rfl, cnt_append, cnt_append, cnt_one, cnt_one, hq]
theorem cnt_pos {l : List (Nat × Nat)} {i : Nat} {p : Nat × Nat} (h : l[i]? = some p) : 1 ≤ cnt p.1 l := by
  have := cnt_erase p.1 l i p h
  simp at this
  omega

section
variable {k sent : Nat} {L : Nat → List (Nat × Nat)} {f : Nat → Nat → Nat}
theorem Fair.start : Fair 0 0 (fun _ => []) (fun _ _ => 0) := ⟨Nat.le_refl _, fun _ _ p hp => (nomatch hp), fun _ _ _ => by simp [cnt], fun _ _ _ => Nat.le_refl _, fun _ _ => by simp⟩
theorem Fair.mono (h : Fair k sent L f) : Fair (k + 1) sent L f := ⟨by have := h.ks; omega, h.el, h.le, fun w hw id => by have := h.fk w hw id; omega, h.ln⟩
/-- One row is another. -/
theorem Fair.turn (h : Fair k sent L f) {way : Nat} (hw : way < 2) {sent' : Nat} (hs : sent ≤ sent') (hs2 : sent' ≤ k + 1) {l : List (Nat × Nat)} {g : Nat → Nat} (hel : ∀ p ∈ l, p.1 ≤ sent' ∧ p.2 < 2) (hle : ∀ id, cnt id l ≤ g id) (hfk : ∀ id, g id ≤ k + 1) (hln : l.length ≤ 64) : Fair (k + 1) sent' (upd L way l) (upd f way g) := by
  refine ⟨hs2, fun w hw' p hp => ?_, fun w hw' id => ?_, fun w hw' id => ?_, fun w hw' => ?_⟩
  · by_cases e : w = way
    · subst e; rw [upd_same] at hp; exact hel p hp
    · rw [upd_other _ _ e] at hp; have := h.el w hw' p hp; omega
  · by_cases e : w = way
    · subst e; rw [upd_same, upd_same]; exact hle id
    · rw [upd_other _ _ e, upd_other _ _ e]; exact h.le w hw' id
  · by_cases e : w = way
    · subst e; rw [upd_same]; exact hfk id
    · rw [upd_other _ _ e]; have := h.fk w hw' id; omega
  · by_cases e : w = way
    · subst e; rw [upd_same]; exact hln
    · rw [upd_other _ _ e]; exact h.ln w hw'
theorem Fair.send (h : Fair k sent L f) {way : Nat} (hw : way < 2) (hl : (L way).length < 64) : Fair (k + 1) (sent + 1) (upd L way (L way ++ [(sent + 1, 0)])) (upd f way (upd (f way) (sent + 1) (f way (sent + 1) + 1))) := by
  refine h.turn hw (by omega) (by have := h.ks; omega) (fun p hp => ?_) (fun id => ?_) (fun id => ?_) (by simp; omega)
  · rcases List.mem_append.1 hp with hp | hp
    · have := h.el way hw p hp; omega
    · simp at hp; subst hp; exact ⟨Nat.le_refl _, by omega⟩
  · rw [cnt_append, cnt_one]
    have := h.le way hw id
    unfold upd
    by_cases e : id = sent + 1
    · subst e; simp; exact this
    · rw [if_neg (by simp; omega), if_neg e]; exact this
  · have := h.fk way hw id
    unfold upd
    by_cases e : id = sent + 1
    · subst e; simp; omega
    · rw [if_neg e]; omega
theorem Fair.lost (h : Fair k sent L f) {way : Nat} (hw : way < 2) : Fair (k + 1) (sent + 1) (upd L way ((L way).eraseIdx 0 ++ [(sent + 1, 0)])) (upd f way (upd (f way) (sent + 1) (f way (sent + 1) + 1))) := by
  refine h.turn hw (by omega) (by have := h.ks; omega) (fun p hp => ?_) (fun id => ?_) (fun id => ?_) ?_
  · rcases List.mem_append.1 hp with hp | hp
    · have := h.el way hw p (List.eraseIdx_subset hp); omega
    · simp at hp; subst hp; exact ⟨Nat.le_refl _, by omega⟩
  · rw [cnt_append, cnt_one]
    have := h.le way hw id
    have h2 := cnt_erase_le id (L way) 0
    unfold upd
    by_cases e : id = sent + 1
    · subst e; simp at h2 ⊢; omega
    · rw [if_neg (by simp; omega), if_neg e]; omega
  · have := h.fk way hw id
    unfold upd
    by_cases e : id = sent + 1
    · subst e; simp; omega
    · rw [if_neg e]; omega
  · have := h.ln way hw
    rw [List.length_append, List.length_singleton]
    by_cases h0 : L way = []
    · rw [h0]; simp
    · have h3 : 0 < (L way).length := List.length_pos_iff.2 h0
      rw [List.length_eraseIdx_of_lt h3]; omega
theorem Fair.take (h : Fair k sent L f) {way i : Nat} (hw : way < 2) {p : Nat × Nat} (hp : (L way)[i]? = some p) : 1 ≤ f way p.1 ∧ Fair (k + 1) sent (upd L way ((L way).eraseIdx i)) (upd f way (upd (f way) p.1 (f way p.1 - 1))) := by
  have h1 := cnt_pos hp
  have h2 := h.le way hw p.1
  refine ⟨by omega, h.turn hw (Nat.le_refl _) (by have := h.ks; omega) (fun q hq => h.el way hw q (List.eraseIdx_subset hq)) (fun id => ?_) (fun id => ?_) (Nat.le_trans (List.length_eraseIdx_le _ _) (h.ln way hw))⟩
  · have h3 := cnt_erase id (L way) i p hp
    have h4 := h.le way hw id
    unfold upd
    by_cases e : id = p.1
    · subst e; simp at h3 ⊢; omega
    · rw [if_neg (fun e' => e e'.symm)] at h3; rw [if_neg e]; omega
  · have := h.fk way hw id
    have := h.fk way hw p.1
    unfold upd
    split <;> omega
theorem Fair.double (h : Fair k sent L f) {way i : Nat} (hw : way < 2) {p : Nat × Nat} (hp : (L way)[i]? = some p) (hl : (L way).length < 64) : Fair (k + 1) sent (upd L way (L way ++ [p])) (upd f way (upd (f way) p.1 (f way p.1 + 1))) := by
  refine h.turn hw (Nat.le_refl _) (by have := h.ks; omega) (fun q hq => ?_) (fun id => ?_) (fun id => ?_) (by simp; omega)
  · rcases List.mem_append.1 hq with hq | hq
    · exact h.el way hw q hq
    · simp at hq; subst hq; exact h.el way hw _ (List.mem_of_getElem? hp)
  · rw [cnt_append, cnt_one]
    have := h.le way hw id
    unfold upd
    by_cases e : id = p.1
    · subst e; simp; exact this
    · rw [if_neg (fun e' => e e'.symm), if_neg e]; exact this
  · have := h.fk way hw id
    unfold upd
    by_cases e : id = p.1
    · subst e; simp; omega
    · rw [if_neg e]; omega
theorem Fair.flip (h : Fair k sent L f) {way i : Nat} (hw : way < 2) {p : Nat × Nat} (hp : (L way)[i]? = some p) (x : Nat) (hx : x < 2) : Fair (k + 1) sent (upd L way ((L way).set i (p.1, x))) f := by
  have := h.turn hw (Nat.le_refl _) (by have := h.ks; omega) (l := (L way).set i (p.1, x)) (g := f way) (fun q hq => ?_) (fun id => ?_) (fun id => ?_) (by simpa using h.ln way hw)
  · rwa [show upd f way (f way) = f from by funext w; unfold upd; split <;> simp_all] at this
  · rcases List.mem_or_eq_of_mem_set hq with hq | rfl
    · exact h.el way hw q hq
    · exact ⟨(h.el way hw _ (List.mem_of_getElem? hp)).1, hx⟩
  · rw [cnt_set id (L way) i p (p.1, x) hp rfl]; exact h.le way hw id
  · have := h.fk way hw id; omega
end

theorem MapF.mono {W : World} {m n n' : Nat} {f : Nat → Nat} (h : MapF W m n f) (hn : n ≤ n') : MapF W m n' f := by
  obtain ⟨D, ho, hD⟩ := h
  exact ⟨D, ho.mono hn, hD⟩
theorem MapF.block {W : World} {m n : Nat} {f : Nat → Nat} (h : MapF W m n f) : ∃ es clock, W.heap[m]? = some (.map es clock) := by
  obtain ⟨D, ⟨es, clock, hb, F, h1, h2⟩, hD⟩ := h
  exact ⟨es, clock, hb⟩
/-- What lies in memory: the net; the two maps, behind their array; what waits is counted in another. -/
structure Mem (w : World) (bn m0 n : Nat) (L : Nat → List (Nat × Nat)) (f : Nat → Nat → Nat) (v : Nat → Nat) (Ds : List Nat) (W : World) : Prop where
  net : NetL w.heap.size W bn (fun way => (L way).map (dat way))
  ma : MapF W m0 n (f 0)
  mb : MapF W (m0 + 1) n (f 1)
  am : W.heap[m0 + 1 + 1]? = some (.cells #[.map (some m0), .map (some (m0 + 1))] 81)
  aw : W.heap[m0 + 1 + 1 + 1]? = some (.cells #[.int .i64 (v 0 : Int), .int .i64 (v 1 : Int)] 82)
  st : Step [] w W
  lo : w.heap.size ≤ m0
  ds : ∀ D ∈ Ds, w.heap.size ≤ D ∧ W.heap[D]? = some (.deferred (some []))
  nd : Ds.Nodup
section
variable {w W W' : World} {bn m0 n : Nat} {L : Nat → List (Nat × Nat)} {f : Nat → Nat → Nat} {v : Nat → Nat} {Ds : List Nat}
theorem Mem.same (h : Mem w bn m0 n L f v Ds W) (hs : Step [] W W') : Mem w bn m0 n L f v Ds W' :=
  ⟨h.net.same hs, h.ma.keep hs (by simp), h.mb.keep hs (by simp), obj_step h.am hs (by simp), obj_step h.aw hs (by simp), h.st.trans hs, h.lo, fun D hD => ⟨(h.ds D hD).1, obj_step (h.ds D hD).2 hs (by simp)⟩, h.nd⟩
theorem Mem.mono (h : Mem w bn m0 n L f v Ds W) {n' : Nat} (hn : n ≤ n') : Mem w bn m0 n' L f v Ds W := { h with ma := h.ma.mono hn, mb := h.mb.mono hn }
theorem Mem.turn (h : Mem w bn m0 n L f v Ds W) {way : Nat} {X : List (Nat × Nat)} (hN : NetL w.heap.size W' bn (upd (fun way => (L way).map (dat way)) way (X.map (dat way)))) (hs : StepB w.heap.size W W') : Mem w bn m0 n (upd L way X) f v Ds W' :=
  ⟨by
    have e : (fun k => (upd L way X k).map (dat k)) = upd (fun way => (L way).map (dat way)) way (X.map (dat way)) := by
      funext k; unfold upd; split <;> simp_all
    rw [e]; exact hN, h.ma.keepB hs, h.mb.keepB hs, hs.keep h.am rfl, hs.keep h.aw rfl, StepB.after (Nat.le_refl _) h.st hs, h.lo, fun D hD => ⟨(h.ds D hD).1, hs.keep (h.ds D hD).2 rfl⟩, h.nd⟩
theorem Mem.cellM (h : Mem w bn m0 n L f v Ds W) {way : Nat} (hw : way < 2) : W.cell? ⟨m0 + 1 + 1, way, none⟩ = some (.map (some (m0 + way))) := by
  have hc : way = 0 ∨ way = 1 := by omega
  rcases hc with rfl | rfl <;> exact cells_cell h.am rfl
theorem Mem.cellW (h : Mem w bn m0 n L f v Ds W) {way : Nat} (hw : way < 2) : W.cell? ⟨m0 + 1 + 1 + 1, way, none⟩ = some (.int .i64 (v way : Int)) ∧ W.frozen? ⟨m0 + 1 + 1 + 1, way, none⟩ = false := by
  have hc : way = 0 ∨ way = 1 := by omega
  rcases hc with rfl | rfl <;> exact ⟨cells_cell h.aw rfl, cells_frozen h.aw⟩
theorem Mem.map (h : Mem w bn m0 n L f v Ds W) {way : Nat} (hw : way < 2) : MapF W (m0 + way) n (f way) := by
  have hc : way = 0 ∨ way = 1 := by omega
  rcases hc with rfl | rfl
  · exact h.ma
  · exact h.mb
theorem Mem.apart (h : Mem w bn m0 n L f v Ds W) {b : Nat} {o : Obj} (ho : W.heap[b]? = some o) (ht : netTyped o = false) (hb : w.heap.size ≤ b) (h0 : b ≠ m0) (h1 : b ≠ m0 + 1) (h2 : b ≠ m0 + 1 + 1) (h3 : b ≠ m0 + 1 + 1 + 1) (hd : ∀ l, o ≠ .deferred l) (hs : Step [b] W W') : Mem w bn m0 n L f v Ds W' := by
  have hS : ∀ i ∈ [b], ∀ o', W.heap[i]? = some o' → netTyped o' = false := fun i hi o' ho' => by
    simp at hi; subst hi
    rw [ho] at ho'; cases ho'; exact ht
  obtain ⟨r, e, hN⟩ := h.net
  refine ⟨⟨r, e, hN.apart hs hS⟩, h.ma.keep hs (by simp; exact fun e => h0 e.symm), h.mb.keep hs (by simp; exact fun e => h1 e.symm), obj_step h.am hs (by simp; exact fun e => h2 e.symm), obj_step h.aw hs (by simp; exact fun e => h3 e.symm), Step.after hb h.st hs, h.lo, fun D hD => ⟨(h.ds D hD).1, obj_step (h.ds D hD).2 hs (by
    simp
    rintro rfl
    have := (h.ds D hD).2
    rw [ho] at this
    cases this
    exact hd _ rfl)⟩, h.nd⟩
theorem Mem.set (h : Mem w bn m0 n L f v Ds W) {way : Nat} (hw : way < 2) (x : Nat) : Mem w bn m0 n L f (upd v way x) Ds (W.setCell ⟨m0 + 1 + 1 + 1, way, none⟩ (.int .i64 (x : Int))) := by
  have hs : Step [m0 + 1 + 1 + 1] W (W.setCell ⟨m0 + 1 + 1 + 1, way, none⟩ (.int .i64 (x : Int))) := Step.setObj h.aw rfl (by simp) _ _
  have hS : ∀ i ∈ [m0 + 1 + 1 + 1], ∀ o', W.heap[i]? = some o' → netTyped o' = false := fun i hi o' ho' => by
    simp at hi; subst hi
    rw [h.aw] at ho'; cases ho'; rfl
  obtain ⟨r, e, hN⟩ := h.net
  refine ⟨⟨r, e, hN.apart hs hS⟩, h.ma.keep hs (by simp; omega), h.mb.keep hs (by simp), obj_step h.am hs (by simp), ?_, Step.after (by have := h.lo; omega) h.st hs, h.lo, fun D hD => ⟨(h.ds D hD).1, obj_step (h.ds D hD).2 hs (by
    simp
    rintro rfl
    have := (h.ds _ hD).2
    rw [h.aw] at this
    cases this)⟩, h.nd⟩
  have := setCell_obj h.aw way (.int .i64 (x : Int))
  rw [this]
  have hc : way = 0 ∨ way = 1 := by omega
  rcases hc with rfl | rfl <;> rfl
theorem Mem.put (h : Mem w bn m0 n L f v Ds W) {way : Nat} (hw : way < 2) (hn : n < 1000000) {k x : Nat} (hk : k < 1000000) (hx : x < 1000000) :
    ∃ W', (Instr.mapUpdate 80 (.map (some (m0 + way))) (.int .i64 (k : Int)) (.int .i64 (x : Int))).run Try.prog W = .ok () W' ∧ Mem w bn m0 (n + 1) L (upd f way (upd (f way) k x)) v Ds W' ∧ Step [m0 + way] W W' := by
  obtain ⟨W', hrun, hm, hs, hoth⟩ := (h.map hw).put hn hk hx
  obtain ⟨es, clock, hb⟩ := (h.map hw).block
  have hS : ∀ i ∈ [m0 + way], ∀ o', W.heap[i]? = some o' → netTyped o' = false := fun i hi o' ho' => by
    simp at hi; subst hi
    rw [hb] at ho'; cases ho'; rfl
  obtain ⟨r, e, hN⟩ := h.net
  refine ⟨W', hrun, ⟨⟨r, e, hN.apart hs hS⟩, ?_, ?_, obj_step h.am hs (by simp; omega), obj_step h.aw hs (by simp; omega), Step.after (by have := h.lo; omega) h.st hs, h.lo, fun D hD => ⟨(h.ds D hD).1, obj_step (h.ds D hD).2 hs (by
    simp
    rintro rfl
    have := (h.ds _ hD).2
    rw [hb] at this
    cases this)⟩, h.nd⟩, hs⟩
  · by_cases e : way = 0
    · subst e; rw [upd_same]; exact hm
    · rw [upd_other _ _ (by omega)]; exact (hoth m0 n (f 0) (by omega) h.ma).mono (by omega)
  · by_cases e : way = 1
    · subst e; rw [upd_same]; exact hm
    · rw [upd_other _ _ (by omega)]; exact (hoth (m0 + 1) n (f 1) (by omega) h.mb).mono (by omega)
end
theorem reads_lit (w : World) (C : Array Value) (n : Nat) (hC : C.size = n) (hn : n ≤ 1000) : Reads (w.alloc (.cells C 5)) (.slice (some ⟨w.heap.size, 0, none⟩) n n) C.toList := by
  have hl : C.toList.length = n := by rw [Array.length_toList, hC]
  refine .inr ⟨w.heap.size, 0, n, by rw [hl], by rw [hl]; exact Nat.le_refl _, by unfold maxLen; omega, fun j hj => ?_⟩
  rw [Array.length_toList] at hj
  rw [Nat.zero_add, Array.getElem?_toList, Array.getElem?_eq_getElem hj]
  exact cells_cell (by rw [heap_alloc_get, if_pos rfl]) (Array.getElem?_eq_getElem hj)
end Go.Proofs.Ytnomnhlfenhjdaa
