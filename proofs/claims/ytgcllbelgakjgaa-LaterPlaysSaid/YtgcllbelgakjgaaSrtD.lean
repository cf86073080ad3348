/- Sorting: pattern-defeating quicksort. Sorting: slices.Sort, slices.SortFunc. -/
import Derived.Test.YtgcllbelgakjgaaSrtC
set_option linter.unusedSimpArgs false
set_option linter.unusedVariables false
namespace Go.Proofs.Ytgcllbelgakjgaa
open Go.Vc Go.Sort

section
variable {α : Type} [Inhabited α] {K : Value → Heap → Prop} {h0 h : Heap} {b n c : Nat} {val : α → Value} {d : Array α} {f : Value} {cm : α → α → Int}

/-- What pdq does behind the pivot's choice. -/
def pdqR (lt : α → α → Bool) (a b l1 pivot : Nat) (wb wp : Bool) (d3 : Array α) : Array α :=
  if a > 0 && !lt d3[a - 1]! d3[pivot]! then
    match partitionEqual lt d3 a b pivot with
    | (mid, d4) => if _h : a < mid ∧ mid ≤ b then pdq lt d4 mid b l1 wb wp else d4
  else
    match partition lt d3 a b pivot with
    | (mid, alreadyPartitioned, d4) =>
      if _h : a ≤ mid ∧ mid < b then
        if mid - a < b - mid then
          pdq lt (pdq lt d4 a mid l1 true true) (mid + 1) b l1 (decide (mid - a ≥ (b - a) / 8)) alreadyPartitioned
        else
          pdq lt (pdq lt d4 (mid + 1) b l1 true true) a mid l1 (decide (b - mid ≥ (b - a) / 8)) alreadyPartitioned
      else d4
theorem pdq_step {lt : α → α → Bool} {d d1 d2 : Array α} {a b limit l1 pivot : Nat} {wb wp : Bool} {cc : Nat × Hint} {hint : Hint} (h12 : ¬ b - a ≤ 12) (hl : ¬ limit = 0) (e1 : d1 = if !wb then breakPatterns d a b else d) (e2 : l1 = if !wb then limit - 1 else limit)
    (ec : cc = choosePivot lt d1 a b) (e3 : d2 = if cc.2 = .decreasing then reverseRange d1 a b else d1) (e4 : pivot = if cc.2 = .decreasing then (b - 1) - (cc.1 - a) else cc.1) (e5 : hint = if cc.2 = .decreasing then Hint.increasing else cc.2) :
    pdq lt d a b limit wb wp = (if (if wb && wp && decide (hint = .increasing) then partialInsertionSort lt d2 a b else (d2, false)).2 = true then (if wb && wp && decide (hint = .increasing) then partialInsertionSort lt d2 a b else (d2, false)).1 else pdqR lt a b l1 pivot wb wp (if wb && wp && decide (hint = .increasing) then partialInsertionSort lt d2 a b else (d2, false)).1) := by
  rw [pdq, if_neg h12, if_neg hl]
  subst e1 e2 ec e3 e4 e5
  rfl

end
end Go.Proofs.Ytgcllbelgakjgaa
set_option linter.unusedSimpArgs false
set_option linter.unusedVariables false
namespace Go.Proofs.Ytgcllbelgakjgaa
open Go.Vc Go.Sort

section
variable {α : Type} [Inhabited α] {K : Value → Heap → Prop} {h0 h : Heap} {b n c : Nat} {val : α → Value} {d : Array α} {f : Value} {cm : α → α → Int}

set_option linter.unusedSectionVars false
theorem SA.init {e : Nat} {L : List α} (o : OwnT e 1 h (.slice (some ⟨b, 0, none⟩) n c) (L.map val)) : SA e b n c val h h L.toArray := ⟨by simpa using o, .refl _ _⟩
/-- No later one is less than an earlier one. -/
def Ascend (lt : α → α → Bool) (L : List α) : Prop := L.Pairwise (fun x y => lt y x = false)
theorem sorts {lt : α → α → Bool} (hw : SWO lt) (d : Array α) (lim : Nat) : (pdq lt d 0 d.size lim true true).toList.Perm d.toList ∧ Ascend lt (pdq lt d 0 d.size lim true true).toList := by
  obtain ⟨⟨h1, h2, h3⟩, h4⟩ := pdq_sorts lt hw d 0 d.size lim true true (Nat.zero_le _) (Nat.le_refl _) (.inl rfl)
  generalize pdq lt d 0 d.size lim true true = R at *
  constructor
  · have e1 : R.extract 0 d.size = R := by rw [← h1]; simp
    have e2 : d.extract 0 d.size = d := by simp
    rw [e1, e2] at h3
    exact h3
  · unfold Ascend
    rw [List.pairwise_iff_getElem]
    intro i j hi hj hij
    have := h4 i j (Nat.zero_le _) hij (by simp at hj; omega)
    simp at hi hj
    rw [getB (d := R) hi, getB (d := R) hj] at this
    simpa using this

theorem swo_sub : SWO (ltC (fun x y : Int => x - y)) := by
  refine ⟨fun x => ?_, fun x y z => ?_, fun x y z => ?_⟩ <;> unfold ltC
  · simp
  · simp; omega
  · simp; omega
end
end Go.Proofs.Ytgcllbelgakjgaa
