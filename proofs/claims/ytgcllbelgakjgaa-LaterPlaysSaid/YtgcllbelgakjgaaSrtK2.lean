/- Sorting: the elements of two cells of a slice of one's own, told as an array. -/
import Derived.Test.YtgcllbelgakjgaaSrtK
namespace Go.Vc
open Go Go.Sort
set_option linter.unusedSimpArgs false
set_option linter.unusedVariables false
set_option linter.unusedSectionVars false
section
variable {α : Type} [Inhabited α] {pq : α → Int × Int} {h0 h : Heap} {e b n c : Nat} {d : Array α}

def cell2 (pq : α → Int × Int) (x : α) : List Value := [.int .i64 (pq x).1, .int .i64 (pq x).2]
def val2 (pq : α → Int × Int) (x : α) : Value := .agg #[.int .i64 (pq x).1, .int .i64 (pq x).2]
theorem cell2_len (l : List α) : (l.flatMap (cell2 pq)).length = l.length * 2 := by
  induction l with | nil => rfl | cons f l ih => rw [List.flatMap_cons, List.length_append, ih]; simp [cell2]; omega
theorem cell2_get : ∀ (l : List α) (i : Nat) (hi : i < l.length), (l.flatMap (cell2 pq))[i * 2]? = some (.int .i64 (pq l[i]).1) ∧ (l.flatMap (cell2 pq))[i * 2 + 1]? = some (.int .i64 (pq l[i]).2)
  | x :: l, 0, _ => by simp [cell2]
  | x :: l, i + 1, hi => by
    have := cell2_get l i (by simpa using hi)
    rw [show (i + 1) * 2 = (cell2 pq x).length + i * 2 by simp [cell2]; omega, List.flatMap_cons]
    refine ⟨?_, ?_⟩
    · rw [List.getElem?_append_right (by omega), Nat.add_sub_cancel_left]; exact this.1
    · rw [List.getElem?_append_right (by omega), show (cell2 pq x).length + i * 2 + 1 - (cell2 pq x).length = i * 2 + 1 by omega]; exact this.2
theorem cell2_set : ∀ (l : List α) (i : Nat) (x : α), i < l.length → ((l.flatMap (cell2 pq)).set (i * 2) (.int .i64 (pq x).1)).set (i * 2 + 1) (.int .i64 (pq x).2) = (l.set i x).flatMap (cell2 pq)
  | y :: l, 0, x, _ => by simp [cell2]
  | y :: l, i + 1, x, h => by
    have := cell2_set l i x (by simpa using h)
    rw [show (i + 1) * 2 = i * 2 + 2 by omega, List.set_cons_succ, List.flatMap_cons, List.flatMap_cons, ← this]
    simp [cell2, List.set_cons_succ]
/-- The array's elements lie in the block b; only that block has changed since h0. -/
structure SB (e b n c : Nat) (pq : α → Int × Int) (h0 h : Heap) (d : Array α) : Prop where
  own : OwnT e 2 h (.slice (some ⟨b, 0, none⟩) n c) (d.toList.flatMap (cell2 pq))
  mod : Mod (· = b) h0 h
theorem SB.size (s : SB e b n c pq h0 h d) : d.size = n := by
  have hl := cell2_len (pq := pq) d.toList
  rcases s.own with ⟨h1, -⟩ | ⟨b', n', c', rest, h1, h2, -⟩
  · cases h1
  · cases h1
    rw [hl] at h2
    simp at h2; omega
/-- The cells of an element; they may be written. -/
theorem SB.get (s : SB e b n c pq h0 h d) {i : Nat} (hi : i < n) : (hcell h (elt ⟨b, 0, none⟩ (i * 2)) = some (.int .i64 (pq d[i]!).1) ∧ hcell h (elt ⟨b, 0, none⟩ (i * 2 + 1)) = some (.int .i64 (pq d[i]!).2)) ∧ hfrozen h (elt ⟨b, 0, none⟩ (i * 2)) = false ∧ hfrozen h (elt ⟨b, 0, none⟩ (i * 2 + 1)) = false := by
  have hz := s.size
  have hl := cell2_len (pq := pq) d.toList
  have hdl : d.toList.length = n := by simpa using hz
  have g := cell2_get (pq := pq) d.toList i (by omega)
  have c0 := s.own.elt (i := i * 2) (by omega)
  have c1 := s.own.elt (i := i * 2 + 1) (by omega)
  have hd : d.toList[i]'(by omega) = d[i]! := by rw [getB (by omega)]; simp
  refine ⟨⟨c0.1.trans ?_, c1.1.trans ?_⟩, c0.2, c1.2⟩
  · rw [← hd, ← g.1, List.getElem?_eq_getElem]
  · rw [← hd, ← g.2, List.getElem?_eq_getElem]
/-- One element is written. -/
theorem SB.set (s : SB e b n c pq h0 h d) {i : Nat} (hi : i < n) (x : α) :
    SB e b n c pq h0 (hset (hset h (elt ⟨b, 0, none⟩ (i * 2)) (.int .i64 (pq x).1)) (elt ⟨b, 0, none⟩ (i * 2 + 1)) (.int .i64 (pq x).2)) (d.setIfInBounds i x) := by
  have hz := s.size
  have hl := cell2_len (pq := pq) d.toList
  have hdl : d.toList.length = n := by simpa using hz
  refine ⟨?_, Mod.setIn (Mod.setIn s.mod (.inl (by simp))) (.inl (by simp))⟩
  have r1 := s.own.setE (i := i * 2) (by omega) (u := .int .i64 (pq x).1)
  have r2 := r1.setE (i := i * 2 + 1) (by rw [List.length_set]; omega) (u := .int .i64 (pq x).2)
  rw [cell2_set _ _ _ (by omega)] at r2
  simpa using r2
/-- What may be read and written behind the writing of one element. -/
theorem SB.get2 (s : SB e b n c pq h0 h d) {i j : Nat} (hi : i < n) (hj : j < n) (x : α) :
    (∃ u : Value × Value × Value, hcell (hset h (elt ⟨b, 0, none⟩ (i * 2)) (.int .i64 (pq x).1)) (elt ⟨b, 0, none⟩ (i * 2 + 1)) = some u.1 ∧
      hcell (hset (hset h (elt ⟨b, 0, none⟩ (i * 2)) (.int .i64 (pq x).1)) (elt ⟨b, 0, none⟩ (i * 2 + 1)) (.int .i64 (pq x).2)) (elt ⟨b, 0, none⟩ (j * 2)) = some u.2.1 ∧
      ∀ v, hcell (hset (hset (hset h (elt ⟨b, 0, none⟩ (i * 2)) (.int .i64 (pq x).1)) (elt ⟨b, 0, none⟩ (i * 2 + 1)) (.int .i64 (pq x).2)) (elt ⟨b, 0, none⟩ (j * 2)) v) (elt ⟨b, 0, none⟩ (j * 2 + 1)) = some u.2.2) ∧
    ∀ g k v, hfrozen (hset g (elt ⟨b, 0, none⟩ k) v) (elt ⟨b, 0, none⟩ (j * 2)) = hfrozen g (elt ⟨b, 0, none⟩ (j * 2)) ∧ hfrozen (hset g (elt ⟨b, 0, none⟩ k) v) (elt ⟨b, 0, none⟩ (j * 2 + 1)) = hfrozen g (elt ⟨b, 0, none⟩ (j * 2 + 1)) ∧ hfrozen (hset g (elt ⟨b, 0, none⟩ k) v) (elt ⟨b, 0, none⟩ (i * 2 + 1)) = hfrozen g (elt ⟨b, 0, none⟩ (i * 2 + 1)) := by
  have g1 := (s.get hi).1.2
  have g2 := ((s.set hi x).get hj).1
  refine ⟨⟨(.int .i64 (pq d[i]!).2, .int .i64 (pq (d.setIfInBounds i x)[j]!).1, .int .i64 (pq (d.setIfInBounds i x)[j]!).2), ?_, g2.1, fun v => ?_⟩, fun g k v => ⟨hfrozen_set, hfrozen_set, hfrozen_set⟩⟩
  · rw [hcell_set_elt, if_neg (by omega)]; exact g1
  · rw [hcell_set_elt, if_neg (by omega)]; exact g2.2
theorem SB.swap (s : SB e b n c pq h0 h d) {i j : Nat} (hi : i < n) (hj : j < n) :
    SB e b n c pq h0 (hset (hset (hset (hset h (elt ⟨b, 0, none⟩ (i * 2)) (.int .i64 (pq d[j]!).1)) (elt ⟨b, 0, none⟩ (i * 2 + 1)) (.int .i64 (pq d[j]!).2)) (elt ⟨b, 0, none⟩ (j * 2)) (.int .i64 (pq d[i]!).1)) (elt ⟨b, 0, none⟩ (j * 2 + 1)) (.int .i64 (pq d[i]!).2)) (swp d i j) :=
  (s.set hi d[j]!).set hj d[i]!
theorem SB.from_ {h1 : Heap} (s : SB e b n c pq h1 h d) (m : Mod (· = b) h0 h1) : SB e b n c pq h0 h d := ⟨s.own, m.trans s.mod (fun _ _ e => e)⟩
theorem SB.side {q : Nat} {v : Value} (s : SB e b n c pq h0 h d) (hq : q ≠ b) (hz : h0.size ≤ q) : SB e b n c pq h0 (hset h ⟨q, 0, none⟩ v) d :=
  ⟨s.own.mod (Mod.set h ⟨q, 0, none⟩ v) (fun b' hb e => by cases hb; exact hq e.symm), Mod.setIn s.mod (.inr hz)⟩
theorem SB.pushed {o : Obj} (s : SB e b n c pq h0 h d) : SB e b n c pq h0 (h.push o) d :=
  ⟨s.own.ext (push_ext (.refl h)), Mod.pushIn s.mod⟩
theorem SB.ext {h' : Heap} (s : SB e b n c pq h0 h d) (x : Ext h h') : SB e b n c pq h0 h' d := ⟨s.own.ext x, Mod.extIn s.mod x⟩
/-- A call of the comparison, which may leave new blocks behind. -/
def CmpOk2 (P : Program) (f : Value) (b : Nat) (h0 : Heap) (val : α → Value) (cm : α → α → Int) : Prop :=
  ∀ x y (g : Heap) (K : Value → Heap → Prop), Mod (· = b) h0 g → (∀ g', Ext g g' → K (.int .i64 (cm x y)) g') → InvokeH P f #[val x, val y] g K ⟨⟩
theorem SB.lt (s : SB e b n c pq h0 h d) : b < h.size := s.own.lt rfl
end
end Go.Vc
