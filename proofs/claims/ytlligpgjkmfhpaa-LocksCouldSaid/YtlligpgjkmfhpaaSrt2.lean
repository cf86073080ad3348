/- Sorting: the heap. -/
import Derived.Test.YtlligpgjkmfhpaaSrt1
set_option linter.unusedSimpArgs false
set_option linter.unusedVariables false
namespace Go.Proofs.Ytlligpgjkmfhpaa
open Go.Vc Go.Sort

section
variable {α : Type} [Inhabited α] {K : Value → Heap → Prop} {h0 h : Heap} {b n c : Nat} {val : α → Value} {d : Array α} {f : Value} {cm : α → α → Int}

set_option maxHeartbeats 1000000 in
theorem siftC_c {lo hi first : Nat} (hf : CmpOk Try.prog f b h0 val cm) (hone : ∀ x, one (val x) = true) (s : SA 59 b n c val h0 h d) (hn : n < 100000) (hh : hi ≤ n) (hfi : first + hi ≤ n) (H : ∀ h', SA 59 b n c val h0 h' (siftDown (ltC cm) hi first lo d) → K (.tuple #[]) h') (hlo : lo < 100000) :
    CallsH Try.prog 84 #[slV b n c, .int .i64 lo, .int .i64 hi, .int .i64 first, f] h K ⟨⟩ := by
  refine n84_calls ?_
  unfold n84 slV
  have st := fun a x K h => Hp_store (P := Try.prog) (t := 59) (a := a) (v := val x) (K := K) (h := h) (by kernel_rfl) (hone x)
  refine loopX1 (α := Nat × Array α) (fun a => .int .i64 a.1) (fun a g => SA 59 b n c val h0 g a.2 ∧ a.1 < 100000 ∧ siftDown (ltC cm) hi first a.1 a.2 = siftDown (ltC cm) hi first lo d) (fun a => hi - a.1) (lo, d) rfl ⟨s, hlo, rfl⟩ ?_
  rintro ⟨r, d1⟩ g ⟨s1, hr, ht⟩ X hX
  dsimp only at s1 hr ht hX ⊢
  rw [siftDown] at ht
  obtain ⟨m, hm⟩ : ∃ m, m = 2 * r + 1 := ⟨_, rfl⟩
  have e1 : 2 * (r : Int) + 1 = (m : Int) := by omega
  by_cases hc : 2 * r + 1 ≥ hi
  · rw [dif_pos hc] at ht
    simp (disch := omega) [e1]
    rw [← ht] at H
    exact H _ s1
  · rw [dif_neg hc] at ht
    simp (disch := omega) [e1]
    have rr := s1.get (i := first + r) (by omega)
    have rm := s1.get (i := first + m) (by omega)
    refine JoinN_in1 (fun w g' => g' = g ∧ ∃ ch : Nat, w = .int .i64 ch ∧ ch < hi ∧ r < ch ∧ (if (!ltC cm d1[first + r]! d1[first + ch]!) = true then d1 else siftDown (ltC cm) hi first ch (swp d1 (first + r) (first + ch))) = siftDown (ltC cm) hi first lo d) (fun k4 hk4 => ?_) (fun w g' hw => ?_)
    · by_cases h2 : m + 1 < hi
      · have rm1 := s1.get (i := first + m + 1) (by omega)
        have e2 : ((first : Int) + (m : Int) + 1).toNat = first + m + 1 := by omega
        simp (disch := omega) [rm.1, rm1.1, e2]
        refine hf _ _ _ _ s1.mod ?_
        by_cases hl : cm d1[first + m]! d1[first + m + 1]! < 0
        · have hlt : ltC cm d1[first + m]! d1[first + m + 1]! = true := decide_eq_true hl
          simp (disch := omega) [hl]
          refine hk4 _ _ ⟨rfl, m + 1, by simp, by omega, by omega, ?_⟩
          rw [if_pos (by rw [← hm, hlt]; simp; omega)] at ht
          have : 2 * r + 2 = m + 1 := by omega
          rw [this, dif_pos (by omega)] at ht
          exact ht
        · have hlt : ltC cm d1[first + m]! d1[first + m + 1]! = false := decide_eq_false hl
          simp (disch := omega) [hl]
          refine hk4 _ _ ⟨rfl, m, rfl, by omega, by omega, ?_⟩
          rw [if_neg (by rw [← hm, hlt]; simp), ← hm] at ht
          exact ht
      · simp (disch := omega)
        refine hk4 _ _ ⟨rfl, m, rfl, by omega, by omega, ?_⟩
        rw [if_neg (by simp; omega), ← hm] at ht
        exact ht
    · obtain ⟨rfl, ch, rfl, hch, hrc, ht2⟩ := hw
      have rc := s1.get (i := first + ch) (by omega)
      obtain ⟨⟨u, wu⟩, wf⟩ := s1.get2 (i := first + r) (j := first + ch) (by omega) (by omega) (val d1[first + ch]!)
      simp (disch := omega) [rr.1, rc.1]
      refine hf _ _ _ _ s1.mod ?_
      by_cases hl : cm d1[first + r]! d1[first + ch]! < 0
      · have hlt : ltC cm d1[first + r]! d1[first + ch]! = true := decide_eq_true hl
        rw [hlt] at ht2
        simp at ht2
        simp (disch := omega) [hl, rr.1, rr.2, rc.1, rc.2, wu, wf, st]
        exact hX (ch, swp d1 (first + r) (first + ch)) _ _ rfl ⟨s1.swap (by omega) (by omega), by dsimp only; omega, ht2⟩ (by dsimp only; omega)
      · have hlt : ltC cm d1[first + r]! d1[first + ch]! = false := decide_eq_false hl
        rw [hlt] at ht2
        simp at ht2
        simp (disch := omega) [hl]
        rw [← ht2] at H
        exact H _ s1
set_option maxHeartbeats 1000000 in
theorem siftO_c {lo hi first : Nat} (hf : LessOk Try.prog 63 val cm) (hone : ∀ x, one (val x) = true) (s : SA 3 b n c val h0 h d) (hn : n < 100000) (hh : hi ≤ n) (hfi : first + hi ≤ n) (H : ∀ h', SA 3 b n c val h0 h' (siftDown (ltC cm) hi first lo d) → K (.tuple #[]) h') (hlo : lo < 100000) :
    CallsH Try.prog 70 #[slV b n c, .int .i64 lo, .int .i64 hi, .int .i64 first] h K ⟨⟩ := by
  refine n70_calls ?_
  unfold n70 slV
  have st := fun a x K h => Hp_store (P := Try.prog) (t := 3) (a := a) (v := val x) (K := K) (h := h) (by kernel_rfl) (hone x)
  refine loopX1 (α := Nat × Array α) (fun a => .int .i64 a.1) (fun a g => SA 3 b n c val h0 g a.2 ∧ a.1 < 100000 ∧ siftDown (ltC cm) hi first a.1 a.2 = siftDown (ltC cm) hi first lo d) (fun a => hi - a.1) (lo, d) rfl ⟨s, hlo, rfl⟩ ?_
  rintro ⟨r, d1⟩ g ⟨s1, hr, ht⟩ X hX
  dsimp only at s1 hr ht hX ⊢
  rw [siftDown] at ht
  obtain ⟨m, hm⟩ : ∃ m, m = 2 * r + 1 := ⟨_, rfl⟩
  have e1 : 2 * (r : Int) + 1 = (m : Int) := by omega
  by_cases hc : 2 * r + 1 ≥ hi
  · rw [dif_pos hc] at ht
    simp (disch := omega) [e1]
    rw [← ht] at H
    exact H _ s1
  · rw [dif_neg hc] at ht
    simp (disch := omega) [e1]
    have rr := s1.get (i := first + r) (by omega)
    have rm := s1.get (i := first + m) (by omega)
    refine JoinN_in1 (fun w g' => g' = g ∧ ∃ ch : Nat, w = .int .i64 ch ∧ ch < hi ∧ r < ch ∧ (if (!ltC cm d1[first + r]! d1[first + ch]!) = true then d1 else siftDown (ltC cm) hi first ch (swp d1 (first + r) (first + ch))) = siftDown (ltC cm) hi first lo d) (fun k4 hk4 => ?_) (fun w g' hw => ?_)
    · by_cases h2 : m + 1 < hi
      · have rm1 := s1.get (i := first + m + 1) (by omega)
        have e2 : ((first : Int) + (m : Int) + 1).toNat = first + m + 1 := by omega
        simp (disch := omega) [rm.1, rm1.1, e2]
        refine hf _ _ _ _ ?_
        by_cases hl : cm d1[first + m]! d1[first + m + 1]! < 0
        · have hlt : ltC cm d1[first + m]! d1[first + m + 1]! = true := decide_eq_true hl
          simp (disch := omega) [hl]
          refine hk4 _ _ ⟨rfl, m + 1, by simp, by omega, by omega, ?_⟩
          rw [if_pos (by rw [← hm, hlt]; simp; omega)] at ht
          have : 2 * r + 2 = m + 1 := by omega
          rw [this, dif_pos (by omega)] at ht
          exact ht
        · have hlt : ltC cm d1[first + m]! d1[first + m + 1]! = false := decide_eq_false hl
          simp (disch := omega) [hl]
          refine hk4 _ _ ⟨rfl, m, rfl, by omega, by omega, ?_⟩
          rw [if_neg (by rw [← hm, hlt]; simp), ← hm] at ht
          exact ht
      · simp (disch := omega)
        refine hk4 _ _ ⟨rfl, m, rfl, by omega, by omega, ?_⟩
        rw [if_neg (by simp; omega), ← hm] at ht
        exact ht
    · obtain ⟨rfl, ch, rfl, hch, hrc, ht2⟩ := hw
      have rc := s1.get (i := first + ch) (by omega)
      obtain ⟨⟨u, wu⟩, wf⟩ := s1.get2 (i := first + r) (j := first + ch) (by omega) (by omega) (val d1[first + ch]!)
      simp (disch := omega) [rr.1, rc.1]
      refine hf _ _ _ _ ?_
      by_cases hl : cm d1[first + r]! d1[first + ch]! < 0
      · have hlt : ltC cm d1[first + r]! d1[first + ch]! = true := decide_eq_true hl
        rw [hlt] at ht2
        simp at ht2
        simp (disch := omega) [hl, rr.1, rr.2, rc.1, rc.2, wu, wf, st]
        exact hX (ch, swp d1 (first + r) (first + ch)) _ _ rfl ⟨s1.swap (by omega) (by omega), by dsimp only; omega, ht2⟩ (by dsimp only; omega)
      · have hlt : ltC cm d1[first + r]! d1[first + ch]! = false := decide_eq_false hl
        rw [hlt] at ht2
        simp at ht2
        simp (disch := omega) [hl]
        rw [← ht2] at H
        exact H _ s1
end
end Go.Proofs.Ytlligpgjkmfhpaa
