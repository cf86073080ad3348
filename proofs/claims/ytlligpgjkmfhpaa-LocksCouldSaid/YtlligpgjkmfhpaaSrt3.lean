/- Sorting: by a heap; turned round. -/
import Derived.Test.YtlligpgjkmfhpaaSrt2
set_option linter.unusedSimpArgs false
set_option linter.unusedVariables false
namespace Go.Proofs.Ytlligpgjkmfhpaa
open Go.Vc Go.Sort

section
variable {α : Type} [Inhabited α] {K : Value → Heap → Prop} {h0 h : Heap} {b n c : Nat} {val : α → Value} {d : Array α} {f : Value} {cm : α → α → Int}

set_option maxHeartbeats 1000000 in
theorem heapC_c {x y : Nat} (hf : CmpOk Try.prog f b h0 val cm) (hone : ∀ x, one (val x) = true) (s : SA 59 b n c val h0 h d) (hn : n < 100000) (hxy : x < y) (hy : y ≤ n) (H : ∀ h', SA 59 b n c val h0 h' (heapSort (ltC cm) d x y) → K (.tuple #[]) h') :
    CallsH Try.prog 76 #[slV b n c, .int .i64 x, .int .i64 y, f] h K ⟨⟩ := by
  refine n76_calls ?_
  unfold n76
  have st := fun a x K h => Hp_store (P := Try.prog) (t := 59) (a := a) (v := val x) (K := K) (h := h) (by kernel_rfl) (hone x)
  obtain ⟨m, rfl⟩ : ∃ m, y = x + m := ⟨y - x, by omega⟩
  unfold heapSort at H
  rw [Nat.add_sub_cancel_left] at H
  have em : ((x + m : Nat) : Int) - (x : Int) = (m : Int) := by omega
  simp (disch := omega) only [em, Hp_sub_i64, Hp_quo_i64, ValI_iff]
  refine loopX1 (α := Nat × Array α) (fun a => .int .i64 ((a.1 : Int) - 1)) (fun a g => SA 59 b n c val h0 g a.2 ∧ a.1 ≤ m ∧ heapBuild (ltC cm) m x a.1 a.2 = heapBuild (ltC cm) m x ((m - 1) / 2 + 1) d) (fun a => a.1) ((m - 1) / 2 + 1, d) (by congr 1; omega) ⟨s, by dsimp only; omega, rfl⟩ ?_
  rintro ⟨k, d1⟩ g ⟨s1, hk, ht⟩ X hX
  dsimp only at s1 hk ht hX ⊢
  cases k with
  | zero =>
    rw [heapBuild] at ht
    rw [← ht] at H
    simp (disch := omega)
    refine loopX1 (α := Nat × Array α) (fun a => .int .i64 ((a.1 : Int) - 1)) (fun a g => SA 59 b n c val h0 g a.2 ∧ a.1 ≤ m ∧ heapPop (ltC cm) x a.1 a.2 = heapPop (ltC cm) x m d1) (fun a => a.1) (m, d1) (by congr 1) ⟨s1, Nat.le_refl _, rfl⟩ ?_
    rintro ⟨k, d2⟩ g ⟨s2, hk, ht⟩ X hX
    dsimp only at s2 hk ht hX ⊢
    cases k with
    | zero =>
      rw [heapPop] at ht
      rw [← ht] at H
      simp (disch := omega)
      exact H _ s2
    | succ k =>
      rw [heapPop] at ht
      have wi := s2.get (i := x) (by omega)
      have wj := s2.get (i := x + k) (by omega)
      obtain ⟨⟨wu, wwu⟩, wwf⟩ := s2.get2 (i := x) (j := x + k) (by omega) (by omega) (val d2[x + k]!)
      unfold slV
      simp (disch := omega) [wi.1, wi.2, wj.1, wj.2, wwu, wwf, st]
      refine siftC_c (lo := 0) (hi := k) (first := x) hf hone (s2.swap (by omega) (by omega)) hn (by omega) (by omega) (fun g' s3 => ?_) (by omega)
      simp (disch := omega)
      exact hX (k, _) _ _ rfl ⟨s3, by dsimp only; omega, ht⟩ (by dsimp only; omega)
  | succ k =>
    rw [heapBuild] at ht
    simp (disch := omega)
    refine siftC_c (lo := k) (hi := m) (first := x) hf hone s1 hn (by omega) (by omega) (fun g' s3 => ?_) (by omega)
    simp (disch := omega)
    exact hX (k, _) _ _ rfl ⟨s3, by dsimp only; omega, ht⟩ (by dsimp only; omega)
set_option maxHeartbeats 1000000 in
theorem heapO_c {x y : Nat} (hf : LessOk Try.prog 63 val cm) (hone : ∀ x, one (val x) = true) (s : SA 3 b n c val h0 h d) (hn : n < 100000) (hxy : x < y) (hy : y ≤ n) (H : ∀ h', SA 3 b n c val h0 h' (heapSort (ltC cm) d x y) → K (.tuple #[]) h') :
    CallsH Try.prog 58 #[slV b n c, .int .i64 x, .int .i64 y] h K ⟨⟩ := by
  refine n58_calls ?_
  unfold n58
  have st := fun a x K h => Hp_store (P := Try.prog) (t := 3) (a := a) (v := val x) (K := K) (h := h) (by kernel_rfl) (hone x)
  obtain ⟨m, rfl⟩ : ∃ m, y = x + m := ⟨y - x, by omega⟩
  unfold heapSort at H
  rw [Nat.add_sub_cancel_left] at H
  have em : ((x + m : Nat) : Int) - (x : Int) = (m : Int) := by omega
  simp (disch := omega) only [em, Hp_sub_i64, Hp_quo_i64, ValI_iff]
  refine loopX1 (α := Nat × Array α) (fun a => .int .i64 ((a.1 : Int) - 1)) (fun a g => SA 3 b n c val h0 g a.2 ∧ a.1 ≤ m ∧ heapBuild (ltC cm) m x a.1 a.2 = heapBuild (ltC cm) m x ((m - 1) / 2 + 1) d) (fun a => a.1) ((m - 1) / 2 + 1, d) (by congr 1; omega) ⟨s, by dsimp only; omega, rfl⟩ ?_
  rintro ⟨k, d1⟩ g ⟨s1, hk, ht⟩ X hX
  dsimp only at s1 hk ht hX ⊢
  cases k with
  | zero =>
    rw [heapBuild] at ht
    rw [← ht] at H
    simp (disch := omega)
    refine loopX1 (α := Nat × Array α) (fun a => .int .i64 ((a.1 : Int) - 1)) (fun a g => SA 3 b n c val h0 g a.2 ∧ a.1 ≤ m ∧ heapPop (ltC cm) x a.1 a.2 = heapPop (ltC cm) x m d1) (fun a => a.1) (m, d1) (by congr 1) ⟨s1, Nat.le_refl _, rfl⟩ ?_
    rintro ⟨k, d2⟩ g ⟨s2, hk, ht⟩ X hX
    dsimp only at s2 hk ht hX ⊢
    cases k with
    | zero =>
      rw [heapPop] at ht
      rw [← ht] at H
      simp (disch := omega)
      exact H _ s2
    | succ k =>
      rw [heapPop] at ht
      have wi := s2.get (i := x) (by omega)
      have wj := s2.get (i := x + k) (by omega)
      obtain ⟨⟨wu, wwu⟩, wwf⟩ := s2.get2 (i := x) (j := x + k) (by omega) (by omega) (val d2[x + k]!)
      unfold slV
      simp (disch := omega) [wi.1, wi.2, wj.1, wj.2, wwu, wwf, st]
      refine siftO_c (lo := 0) (hi := k) (first := x) hf hone (s2.swap (by omega) (by omega)) hn (by omega) (by omega) (fun g' s3 => ?_) (by omega)
      simp (disch := omega)
      exact hX (k, _) _ _ rfl ⟨s3, by dsimp only; omega, ht⟩ (by dsimp only; omega)
  | succ k =>
    rw [heapBuild] at ht
    simp (disch := omega)
    refine siftO_c (lo := k) (hi := m) (first := x) hf hone s1 hn (by omega) (by omega) (fun g' s3 => ?_) (by omega)
    simp (disch := omega)
    exact hX (k, _) _ _ rfl ⟨s3, by dsimp only; omega, ht⟩ (by dsimp only; omega)

set_option maxHeartbeats 1000000 in
theorem revC_c {x y : Nat} (hf : CmpOk Try.prog f b h0 val cm) (hone : ∀ x, one (val x) = true) (s : SA 59 b n c val h0 h d) (hn : n < 100000) (hxy : x < y) (hy : y ≤ n) (H : ∀ h', SA 59 b n c val h0 h' (reverseRange d x y) → K (.tuple #[]) h') :
    CallsH Try.prog 79 #[slV b n c, .int .i64 x, .int .i64 y, f] h K ⟨⟩ := by
  refine n79_calls ?_
  unfold n79
  have st := fun a x K h => Hp_store (P := Try.prog) (t := 59) (a := a) (v := val x) (K := K) (h := h) (by kernel_rfl) (hone x)
  unfold reverseRange at H
  simp (disch := omega)
  refine loopX2 (α := Nat × Nat × Array α) (fun a => .int .i64 a.1) (fun a => .int .i64 a.2.1) (fun a g => SA 59 b n c val h0 g a.2.2 ∧ a.2.1 < n ∧ a.1 ≤ n ∧ reverseLoop a.1 a.2.1 a.2.2 = reverseLoop x (y - 1) d) (fun a => a.2.1 - a.1) (x, y - 1, d) ⟨rfl, by dsimp only; congr 1; omega⟩ ⟨s, by dsimp only; omega, by dsimp only; omega, rfl⟩ ?_
  rintro ⟨i, j, d1⟩ g ⟨s1, hj, hi, ht⟩ X hX
  dsimp only at s1 hj hi ht hX ⊢
  rw [reverseLoop] at ht
  by_cases hij : i < j
  · rw [if_pos hij] at ht
    obtain ⟨k, rfl⟩ : ∃ k, j = k + 1 := ⟨j - 1, by omega⟩
    have wi := s1.get (i := i) (by omega)
    have wj := s1.get (i := k + 1) (by omega)
    obtain ⟨⟨wu, wwu⟩, wwf⟩ := s1.get2 (i := i) (j := k + 1) (by omega) (by omega) (val d1[k + 1]!)
    unfold slV
    simp (disch := omega) [wi.1, wi.2, wj.1, wj.2, wwu, wwf, st]
    exact hX (i + 1, k, _) _ _ _ (by simp) (by simp) ⟨s1.swap (by omega) (by omega), by dsimp only; omega, by dsimp only; omega, ht⟩ (by dsimp only; omega)
  · rw [if_neg hij] at ht
    simp (disch := omega)
    rw [← ht] at H
    exact H _ s1
set_option maxHeartbeats 1000000 in
theorem revO_c {x y : Nat} (hf : LessOk Try.prog 63 val cm) (hone : ∀ x, one (val x) = true) (s : SA 3 b n c val h0 h d) (hn : n < 100000) (hxy : x < y) (hy : y ≤ n) (H : ∀ h', SA 3 b n c val h0 h' (reverseRange d x y) → K (.tuple #[]) h') :
    CallsH Try.prog 61 #[slV b n c, .int .i64 x, .int .i64 y] h K ⟨⟩ := by
  refine n61_calls ?_
  unfold n61
  have st := fun a x K h => Hp_store (P := Try.prog) (t := 3) (a := a) (v := val x) (K := K) (h := h) (by kernel_rfl) (hone x)
  unfold reverseRange at H
  simp (disch := omega)
  refine loopX2 (α := Nat × Nat × Array α) (fun a => .int .i64 a.1) (fun a => .int .i64 a.2.1) (fun a g => SA 3 b n c val h0 g a.2.2 ∧ a.2.1 < n ∧ a.1 ≤ n ∧ reverseLoop a.1 a.2.1 a.2.2 = reverseLoop x (y - 1) d) (fun a => a.2.1 - a.1) (x, y - 1, d) ⟨rfl, by dsimp only; congr 1; omega⟩ ⟨s, by dsimp only; omega, by dsimp only; omega, rfl⟩ ?_
  rintro ⟨i, j, d1⟩ g ⟨s1, hj, hi, ht⟩ X hX
  dsimp only at s1 hj hi ht hX ⊢
  rw [reverseLoop] at ht
  by_cases hij : i < j
  · rw [if_pos hij] at ht
    obtain ⟨k, rfl⟩ : ∃ k, j = k + 1 := ⟨j - 1, by omega⟩
    have wi := s1.get (i := i) (by omega)
    have wj := s1.get (i := k + 1) (by omega)
    obtain ⟨⟨wu, wwu⟩, wwf⟩ := s1.get2 (i := i) (j := k + 1) (by omega) (by omega) (val d1[k + 1]!)
    unfold slV
    simp (disch := omega) [wi.1, wi.2, wj.1, wj.2, wwu, wwf, st]
    exact hX (i + 1, k, _) _ _ _ (by simp) (by simp) ⟨s1.swap (by omega) (by omega), by dsimp only; omega, by dsimp only; omega, ht⟩ (by dsimp only; omega)
  · rw [if_neg hij] at ht
    simp (disch := omega)
    rw [← ht] at H
    exact H _ s1
end
end Go.Proofs.Ytlligpgjkmfhpaa
