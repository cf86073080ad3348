/- Sorting: insertion. -/
import Derived.Test.YtlligpgjkmfhpaaNice
import Derived.Test.YtlligpgjkmfhpaaFacts
import Derived.Test.YtlligpgjkmfhpaaSrtK
set_option linter.unusedSimpArgs false
set_option linter.unusedVariables false
namespace Go.Proofs.Ytlligpgjkmfhpaa
open Go.Vc Go.Sort

section
variable {α : Type} [Inhabited α] {K : Value → Heap → Prop} {h0 h : Heap} {b n c : Nat} {val : α → Value} {d : Array α} {f : Value} {cm : α → α → Int}

set_option maxHeartbeats 1000000 in
theorem insC_c {x y : Nat} (hf : CmpOk Try.prog f b h0 val cm) (hone : ∀ x, one (val x) = true) (s : SA 59 b n c val h0 h d) (hn : n < 100000) (hxy : x ≤ y) (hy : y ≤ n) (H : ∀ h', SA 59 b n c val h0 h' (insertionSort (ltC cm) d x y) → K (.tuple #[]) h') :
    CallsH Try.prog 75 #[slV b n c, .int .i64 x, .int .i64 y, f] h K ⟨⟩ := by
  refine n75_calls ?_
  unfold n75 slV
  have st := fun a x K h => Hp_store (P := Try.prog) (t := 59) (a := a) (v := val x) (K := K) (h := h) (by kernel_rfl) (hone x)
  simp (disch := omega)
  refine loopX1 (α := Nat × Array α) (fun a => .int .i64 a.1) (fun a g => SA 59 b n c val h0 g a.2 ∧ x < a.1 ∧ insOuter (ltC cm) x y a.1 a.2 = insertionSort (ltC cm) d x y) (fun a => y - a.1) (x + 1, d) (by simp) ⟨s, by simp, rfl⟩ ?_
  rintro ⟨i, d1⟩ g ⟨s1, hi, ht⟩ X hX
  dsimp only at s1 hi ht hX ⊢
  rw [insOuter] at ht
  by_cases hiy : i < y
  · rw [if_pos hiy] at ht
    simp (disch := omega)
    refine loopX1 (α := Nat × Array α) (fun a => .int .i64 a.1) (fun a g => SA 59 b n c val h0 g a.2 ∧ a.1 ≤ i ∧ insInner (ltC cm) x a.1 a.2 = insInner (ltC cm) x i d1) (fun a => a.1) (i, d1) rfl ⟨s1, Nat.le_refl _, rfl⟩ ?_
    rintro ⟨j, d2⟩ g2 ⟨s2, hj, ht2⟩ X2 hX2
    dsimp only at s2 hj ht2 hX2 ⊢
    by_cases hjx : x < j
    · obtain ⟨k, rfl⟩ : ∃ k, j = k + 1 := ⟨j - 1, by omega⟩
      have r1 := s2.get (i := k + 1) (by omega)
      have r2 := s2.get (i := k) (by omega)
      obtain ⟨⟨u, wu⟩, wf⟩ := s2.get2 (i := k + 1) (j := k) (by omega) (by omega) (val d2[k]!)
      rw [insInner] at ht2
      simp (disch := omega) [r1.1, r2.1]
      refine hf _ _ _ _ s2.mod ?_
      by_cases hl : cm d2[k + 1]! d2[k]! < 0
      · have hlt : ltC cm d2[k + 1]! d2[k]! = true := decide_eq_true hl
        rw [hlt] at ht2
        simp [hjx] at ht2
        simp (disch := omega) [hl, r1.1, r1.2, r2.1, r2.2, wu, wf, st]
        exact hX2 (k, swp d2 (k + 1) k) _ _ (by simp) ⟨s2.swap (by omega) (by omega), by dsimp only; omega, ht2⟩ (by dsimp only; omega)
      · have hlt : ltC cm d2[k + 1]! d2[k]! = false := decide_eq_false hl
        rw [hlt] at ht2
        simp at ht2
        simp (disch := omega) [hl]
        exact hX (i + 1, d2) _ _ (by simp) ⟨s2, by dsimp only; omega, by dsimp only; rw [ht2]; exact ht⟩ (by dsimp only; omega)
    · have ht3 : d2 = insInner (ltC cm) x i d1 := by
        rw [← ht2]
        cases j with
        | zero => rw [insInner]
        | succ j => rw [insInner, if_neg]; simp; omega
      simp (disch := omega)
      exact hX (i + 1, d2) _ _ (by simp) ⟨s2, by dsimp only; omega, by dsimp only; rw [ht3]; exact ht⟩ (by dsimp only; omega)
  · rw [if_neg hiy] at ht
    simp (disch := omega)
    rw [← ht] at H
    exact H _ s1
set_option maxHeartbeats 1000000 in
theorem insO_c {x y : Nat} (hf : LessOk Try.prog 63 val cm) (hone : ∀ x, one (val x) = true) (s : SA 3 b n c val h0 h d) (hn : n < 100000) (hxy : x ≤ y) (hy : y ≤ n) (H : ∀ h', SA 3 b n c val h0 h' (insertionSort (ltC cm) d x y) → K (.tuple #[]) h') :
    CallsH Try.prog 57 #[slV b n c, .int .i64 x, .int .i64 y] h K ⟨⟩ := by
  refine n57_calls ?_
  unfold n57 slV
  have st := fun a x K h => Hp_store (P := Try.prog) (t := 3) (a := a) (v := val x) (K := K) (h := h) (by kernel_rfl) (hone x)
  simp (disch := omega)
  refine loopX1 (α := Nat × Array α) (fun a => .int .i64 a.1) (fun a g => SA 3 b n c val h0 g a.2 ∧ x < a.1 ∧ insOuter (ltC cm) x y a.1 a.2 = insertionSort (ltC cm) d x y) (fun a => y - a.1) (x + 1, d) (by simp) ⟨s, by simp, rfl⟩ ?_
  rintro ⟨i, d1⟩ g ⟨s1, hi, ht⟩ X hX
  dsimp only at s1 hi ht hX ⊢
  rw [insOuter] at ht
  by_cases hiy : i < y
  · rw [if_pos hiy] at ht
    simp (disch := omega)
    refine loopX1 (α := Nat × Array α) (fun a => .int .i64 a.1) (fun a g => SA 3 b n c val h0 g a.2 ∧ a.1 ≤ i ∧ insInner (ltC cm) x a.1 a.2 = insInner (ltC cm) x i d1) (fun a => a.1) (i, d1) rfl ⟨s1, Nat.le_refl _, rfl⟩ ?_
    rintro ⟨j, d2⟩ g2 ⟨s2, hj, ht2⟩ X2 hX2
    dsimp only at s2 hj ht2 hX2 ⊢
    by_cases hjx : x < j
    · obtain ⟨k, rfl⟩ : ∃ k, j = k + 1 := ⟨j - 1, by omega⟩
      have r1 := s2.get (i := k + 1) (by omega)
      have r2 := s2.get (i := k) (by omega)
      obtain ⟨⟨u, wu⟩, wf⟩ := s2.get2 (i := k + 1) (j := k) (by omega) (by omega) (val d2[k]!)
      rw [insInner] at ht2
      simp (disch := omega) [r1.1, r2.1]
      refine hf _ _ _ _ ?_
      by_cases hl : cm d2[k + 1]! d2[k]! < 0
      · have hlt : ltC cm d2[k + 1]! d2[k]! = true := decide_eq_true hl
        rw [hlt] at ht2
        simp [hjx] at ht2
        simp (disch := omega) [hl, r1.1, r1.2, r2.1, r2.2, wu, wf, st]
        exact hX2 (k, swp d2 (k + 1) k) _ _ (by simp) ⟨s2.swap (by omega) (by omega), by dsimp only; omega, ht2⟩ (by dsimp only; omega)
      · have hlt : ltC cm d2[k + 1]! d2[k]! = false := decide_eq_false hl
        rw [hlt] at ht2
        simp at ht2
        simp (disch := omega) [hl]
        exact hX (i + 1, d2) _ _ (by simp) ⟨s2, by dsimp only; omega, by dsimp only; rw [ht2]; exact ht⟩ (by dsimp only; omega)
    · have ht3 : d2 = insInner (ltC cm) x i d1 := by
        rw [← ht2]
        cases j with
        | zero => rw [insInner]
        | succ j => rw [insInner, if_neg]; simp; omega
      simp (disch := omega)
      exact hX (i + 1, d2) _ _ (by simp) ⟨s2, by dsimp only; omega, by dsimp only; rw [ht3]; exact ht⟩ (by dsimp only; omega)
  · rw [if_neg hiy] at ht
    simp (disch := omega)
    rw [← ht] at H
    exact H _ s1
end
end Go.Proofs.Ytlligpgjkmfhpaa
