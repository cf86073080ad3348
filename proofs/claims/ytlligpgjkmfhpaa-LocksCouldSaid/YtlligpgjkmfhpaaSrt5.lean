/- Sorting: partitions. -/
import Derived.Test.YtlligpgjkmfhpaaSrt4
set_option linter.unusedSimpArgs false
set_option linter.unusedVariables false
namespace Go.Proofs.Ytlligpgjkmfhpaa
open Go.Vc Go.Sort

section
variable {α : Type} [Inhabited α] {K : Value → Heap → Prop} {h0 h : Heap} {b n c : Nat} {val : α → Value} {d : Array α} {f : Value} {cm : α → α → Int}
set_option maxHeartbeats 2000000 in
theorem peqC_c {x y p : Nat} (hf : CmpOk Try.prog f b h0 val cm) (hone : ∀ x, one (val x) = true) (s : SA 59 b n c val h0 h d) (hn : n < 100000) (hxp : x ≤ p) (hpy : p < y) (hy : y ≤ n) (H : ∀ h' (m : Nat), SA 59 b n c val h0 h' (partitionEqual (ltC cm) d x y p).2 → m = (partitionEqual (ltC cm) d x y p).1 → x < m → m ≤ y → K (.int .i64 m) h') :
    CallsH Try.prog 81 #[slV b n c, .int .i64 x, .int .i64 y, .int .i64 p, f] h K ⟨⟩ := by
  refine n81_calls ?_
  unfold n81 slV
  have st := fun a x K h => Hp_store (P := Try.prog) (t := 59) (a := a) (v := val x) (K := K) (h := h) (by kernel_rfl) (hone x)
  unfold partitionEqual at H
  have wi := s.get (i := x) (by omega)
  have wj := s.get (i := p) (by omega)
  obtain ⟨⟨wu, wwu⟩, wwf⟩ := s.get2 (i := x) (j := p) (by omega) (by omega) (val d[p]!)
  simp (disch := omega) [wi.1, wi.2, wj.1, wj.2, wwu, wwf, st]
  have s1 := s.swap (i := x) (j := p) (by omega) (by omega)
  refine loopX2 (α := Nat × Nat × Array α) (fun a => .int .i64 a.1) (fun a => .int .i64 a.2.1) (fun a g => SA 59 b n c val h0 g a.2.2 ∧ x < a.1 ∧ a.1 ≤ y ∧ a.2.1 < y ∧ x ≤ a.2.1 ∧ partEqLoop (ltC cm) x a.1 a.2.1 a.2.2 = partEqLoop (ltC cm) x (x + 1) (y - 1) (swp d x p)) (fun a => a.2.1 + 1 - a.1) (x + 1, y - 1, swp d x p) ⟨by simp, by dsimp only; congr 1; omega⟩ ⟨s1, by dsimp only; omega, by dsimp only; omega, by dsimp only; omega, by dsimp only; omega, rfl⟩ ?_
  rintro ⟨i, j, d1⟩ g ⟨s1, hxi, hiy, hjy, hxj0, ht⟩ X hX
  dsimp only at s1 hxi hiy hjy hxj0 ht hX ⊢
  rw [partEqLoop_eq] at ht
  refine (fun key => ?main : (∀ (i2 : Nat) (g2 : Heap), (SA 59 b n c val h0 g2 d1 ∧ scanUp (fun z => !ltC cm d1[x]! z) d1 j i = i2 ∧ i ≤ i2 ∧ i2 ≤ y) → (?R : Nat → Heap → Prop) i2 g2) → _) (fun i2 g2 hC => ?rest)
  case' main =>
    refine loopX1 (α := Nat) (fun a => .int .i64 a) (fun a g' => SA 59 b n c val h0 g' d1 ∧ i ≤ a ∧ a ≤ y ∧ scanUp (fun z => !ltC cm d1[x]! z) d1 j a = scanUp (fun z => !ltC cm d1[x]! z) d1 j i) (fun a => y - a) i (by first | rfl | simp) ⟨s1, Nat.le_refl _, by omega, rfl⟩ ?_
    rintro i2 g2 ⟨sx, hi2, hi2y, hsc⟩ X2 hX2
    rw [scanUp] at hsc
    by_cases hle : i2 ≤ j
    · have r1 := sx.get (i := i2) (by omega)
      have r0 := sx.get (i := x) (by omega)
      simp (disch := omega) [r1.1, r0.1]
      refine hf _ _ _ _ sx.mod ?_
      by_cases hl : cm d1[x]! d1[i2]! < 0
      · have hlt : ltC cm d1[x]! d1[i2]! = true := decide_eq_true hl
        rw [hlt] at hsc
        simp at hsc
        simp (disch := omega) [hl]
        exact key i2 g2 ⟨sx, hsc.symm, hi2, hi2y⟩
      · have hlt : ltC cm d1[x]! d1[i2]! = false := decide_eq_false hl
        rw [hlt] at hsc
        simp [hle] at hsc
        simp (disch := omega) [hl]
        exact hX2 (i2 + 1) _ _ (by simp) ⟨sx, by omega, by omega, hsc⟩ (by omega)
    · rw [if_neg (by simp; omega)] at hsc
      simp (disch := omega)
      exact key i2 g2 ⟨sx, hsc.symm, hi2, hi2y⟩
  case' rest =>
    obtain ⟨s2, hu, hi2, hi2y⟩ := hC
    refine loopX1 (α := Nat) (fun a => .int .i64 a) (fun a g' => SA 59 b n c val h0 g' d1 ∧ a ≤ j ∧ x ≤ a ∧ scanDown (fun z => ltC cm d1[x]! z) d1 i2 a = scanDown (fun z => ltC cm d1[x]! z) d1 i2 j) (fun a => a) j (by first | rfl | (congr 1; omega)) ⟨s2, Nat.le_refl _, by omega, rfl⟩ ?_
    rintro j2 g4 ⟨sx, hj2, hxj, hsc⟩ X2 hX2
    by_cases hle : i2 ≤ j2
    · obtain ⟨k, rfl⟩ : ∃ k, j2 = k + 1 := ⟨j2 - 1, by omega⟩
      rw [scanDown] at hsc
      have r1 := sx.get (i := k + 1) (by omega)
      have r0 := sx.get (i := x) (by omega)
      simp (disch := omega) [r1.1, r0.1]
      refine hf _ _ _ _ sx.mod ?_
      by_cases hl : cm d1[x]! d1[k + 1]! < 0
      · have hlt : ltC cm d1[x]! d1[k + 1]! = true := decide_eq_true hl
        rw [hlt] at hsc
        simp [hle] at hsc
        simp (disch := omega) [hl]
        exact hX2 k _ _ (by simp) ⟨sx, by omega, by omega, hsc⟩ (by omega)
      · have hlt : ltC cm d1[x]! d1[k + 1]! = false := decide_eq_false hl
        rw [hlt] at hsc
        simp at hsc
        have hd := hsc.symm
        rw [hu, hd, if_neg (by omega), Nat.add_sub_cancel] at ht
        have wi := sx.get (i := i2) (by omega)
        have wj := sx.get (i := k + 1) (by omega)
        obtain ⟨⟨wu, wwu⟩, wwf⟩ := sx.get2 (i := i2) (j := k + 1) (by omega) (by omega) (val d1[k + 1]!)
        simp (disch := omega) [hl, wi.1, wi.2, wj.1, wj.2, wwu, wwf, st]
        exact hX (i2 + 1, k, _) _ _ _ (by simp) (by simp) ⟨sx.swap (by omega) (by omega), by dsimp only; omega, by dsimp only; omega, by dsimp only; omega, by dsimp only; omega, ht⟩ (by dsimp only; omega)
    · have hsc' : scanDown (fun z => ltC cm d1[x]! z) d1 i2 j2 = j2 := by
        cases j2 with
        | zero => rw [scanDown]
        | succ k => rw [scanDown, if_neg]; simp; omega
      rw [hsc'] at hsc
      have hd := hsc.symm
      rw [hu, hd, if_pos (by omega)] at ht
      simp (disch := omega)
      rw [← ht] at H
      exact H g4 i2 sx rfl (by omega) hi2y
set_option maxHeartbeats 2000000 in
theorem peqO_c {x y p : Nat} (hf : LessOk Try.prog 63 val cm) (hone : ∀ x, one (val x) = true) (s : SA 3 b n c val h0 h d) (hn : n < 100000) (hxp : x ≤ p) (hpy : p < y) (hy : y ≤ n) (H : ∀ h' (m : Nat), SA 3 b n c val h0 h' (partitionEqual (ltC cm) d x y p).2 → m = (partitionEqual (ltC cm) d x y p).1 → x < m → m ≤ y → K (.int .i64 m) h') :
    CallsH Try.prog 64 #[slV b n c, .int .i64 x, .int .i64 y, .int .i64 p] h K ⟨⟩ := by
  refine n64_calls ?_
  unfold n64 slV
  have st := fun a x K h => Hp_store (P := Try.prog) (t := 3) (a := a) (v := val x) (K := K) (h := h) (by kernel_rfl) (hone x)
  unfold partitionEqual at H
  have wi := s.get (i := x) (by omega)
  have wj := s.get (i := p) (by omega)
  obtain ⟨⟨wu, wwu⟩, wwf⟩ := s.get2 (i := x) (j := p) (by omega) (by omega) (val d[p]!)
  simp (disch := omega) [wi.1, wi.2, wj.1, wj.2, wwu, wwf, st]
  have s1 := s.swap (i := x) (j := p) (by omega) (by omega)
  refine loopX2 (α := Nat × Nat × Array α) (fun a => .int .i64 a.1) (fun a => .int .i64 a.2.1) (fun a g => SA 3 b n c val h0 g a.2.2 ∧ x < a.1 ∧ a.1 ≤ y ∧ a.2.1 < y ∧ x ≤ a.2.1 ∧ partEqLoop (ltC cm) x a.1 a.2.1 a.2.2 = partEqLoop (ltC cm) x (x + 1) (y - 1) (swp d x p)) (fun a => a.2.1 + 1 - a.1) (x + 1, y - 1, swp d x p) ⟨by simp, by dsimp only; congr 1; omega⟩ ⟨s1, by dsimp only; omega, by dsimp only; omega, by dsimp only; omega, by dsimp only; omega, rfl⟩ ?_
  rintro ⟨i, j, d1⟩ g ⟨s1, hxi, hiy, hjy, hxj0, ht⟩ X hX
  dsimp only at s1 hxi hiy hjy hxj0 ht hX ⊢
  rw [partEqLoop_eq] at ht
  refine (fun key => ?main : (∀ (i2 : Nat) (g2 : Heap), (SA 3 b n c val h0 g2 d1 ∧ scanUp (fun z => !ltC cm d1[x]! z) d1 j i = i2 ∧ i ≤ i2 ∧ i2 ≤ y) → (?R : Nat → Heap → Prop) i2 g2) → _) (fun i2 g2 hC => ?rest)
  case' main =>
    refine loopX1 (α := Nat) (fun a => .int .i64 a) (fun a g' => SA 3 b n c val h0 g' d1 ∧ i ≤ a ∧ a ≤ y ∧ scanUp (fun z => !ltC cm d1[x]! z) d1 j a = scanUp (fun z => !ltC cm d1[x]! z) d1 j i) (fun a => y - a) i (by first | rfl | simp) ⟨s1, Nat.le_refl _, by omega, rfl⟩ ?_
    rintro i2 g2 ⟨sx, hi2, hi2y, hsc⟩ X2 hX2
    rw [scanUp] at hsc
    by_cases hle : i2 ≤ j
    · have r1 := sx.get (i := i2) (by omega)
      have r0 := sx.get (i := x) (by omega)
      simp (disch := omega) [r1.1, r0.1]
      refine hf _ _ _ _ ?_
      by_cases hl : cm d1[x]! d1[i2]! < 0
      · have hlt : ltC cm d1[x]! d1[i2]! = true := decide_eq_true hl
        rw [hlt] at hsc
        simp at hsc
        simp (disch := omega) [hl]
        exact key i2 g2 ⟨sx, hsc.symm, hi2, hi2y⟩
      · have hlt : ltC cm d1[x]! d1[i2]! = false := decide_eq_false hl
        rw [hlt] at hsc
        simp [hle] at hsc
        simp (disch := omega) [hl]
        exact hX2 (i2 + 1) _ _ (by simp) ⟨sx, by omega, by omega, hsc⟩ (by omega)
    · rw [if_neg (by simp; omega)] at hsc
      simp (disch := omega)
      exact key i2 g2 ⟨sx, hsc.symm, hi2, hi2y⟩
  case' rest =>
    obtain ⟨s2, hu, hi2, hi2y⟩ := hC
    refine loopX1 (α := Nat) (fun a => .int .i64 a) (fun a g' => SA 3 b n c val h0 g' d1 ∧ a ≤ j ∧ x ≤ a ∧ scanDown (fun z => ltC cm d1[x]! z) d1 i2 a = scanDown (fun z => ltC cm d1[x]! z) d1 i2 j) (fun a => a) j (by first | rfl | (congr 1; omega)) ⟨s2, Nat.le_refl _, by omega, rfl⟩ ?_
    rintro j2 g4 ⟨sx, hj2, hxj, hsc⟩ X2 hX2
    by_cases hle : i2 ≤ j2
    · obtain ⟨k, rfl⟩ : ∃ k, j2 = k + 1 := ⟨j2 - 1, by omega⟩
      rw [scanDown] at hsc
      have r1 := sx.get (i := k + 1) (by omega)
      have r0 := sx.get (i := x) (by omega)
      simp (disch := omega) [r1.1, r0.1]
      refine hf _ _ _ _ ?_
      by_cases hl : cm d1[x]! d1[k + 1]! < 0
      · have hlt : ltC cm d1[x]! d1[k + 1]! = true := decide_eq_true hl
        rw [hlt] at hsc
        simp [hle] at hsc
        simp (disch := omega) [hl]
        exact hX2 k _ _ (by simp) ⟨sx, by omega, by omega, hsc⟩ (by omega)
      · have hlt : ltC cm d1[x]! d1[k + 1]! = false := decide_eq_false hl
        rw [hlt] at hsc
        simp at hsc
        have hd := hsc.symm
        rw [hu, hd, if_neg (by omega), Nat.add_sub_cancel] at ht
        have wi := sx.get (i := i2) (by omega)
        have wj := sx.get (i := k + 1) (by omega)
        obtain ⟨⟨wu, wwu⟩, wwf⟩ := sx.get2 (i := i2) (j := k + 1) (by omega) (by omega) (val d1[k + 1]!)
        simp (disch := omega) [hl, wi.1, wi.2, wj.1, wj.2, wwu, wwf, st]
        exact hX (i2 + 1, k, _) _ _ _ (by simp) (by simp) ⟨sx.swap (by omega) (by omega), by dsimp only; omega, by dsimp only; omega, by dsimp only; omega, by dsimp only; omega, ht⟩ (by dsimp only; omega)
    · have hsc' : scanDown (fun z => ltC cm d1[x]! z) d1 i2 j2 = j2 := by
        cases j2 with
        | zero => rw [scanDown]
        | succ k => rw [scanDown, if_neg]; simp; omega
      rw [hsc'] at hsc
      have hd := hsc.symm
      rw [hu, hd, if_pos (by omega)] at ht
      simp (disch := omega)
      rw [← ht] at H
      exact H g4 i2 sx rfl (by omega) hi2y
end
end Go.Proofs.Ytlligpgjkmfhpaa
