/- Sorting: patterns broken. -/
import Derived.Test.YtlligpgjkmfhpaaSrt8
set_option linter.unusedSimpArgs false
set_option linter.unusedVariables false
namespace Go.Proofs.Ytlligpgjkmfhpaa
open Go.Vc Go.Sort

section
variable {α : Type} [Inhabited α] {K : Value → Heap → Prop} {h0 h : Heap} {b n c : Nat} {val : α → Value} {d : Array α} {f : Value} {cm : α → α → Int}

def brk (a l m : Nat) : Nat → Nat → UInt64 × Array α → UInt64 × Array α
  | 0, _, st => st
  | k + 1, i, st => brk a l m k (i + 1) (breakStep a l m st i)
theorem brk_eq {x l : Nat} (h8 : 8 ≤ l) : breakPatterns d x (x + l) = (brk x l (2 ^ bitsLen l) 3 (x + l / 4 * 2 - 1) (UInt64.ofNat l, d)).2 := by
  unfold breakPatterns
  rw [Nat.add_sub_cancel_left]
  dsimp only
  rw [if_pos h8, show 1 <<< bitsLen l = 2 ^ bitsLen l by rw [Nat.shiftLeft_eq]; omega]
  rfl

set_option maxHeartbeats 2000000 in
theorem brkC_c {x y : Nat} (hone : ∀ x, one (val x) = true) (s : SA 59 b n c val h0 h d) (hn : n < 100000) (hxy : x < y) (hy : y ≤ n) (H : ∀ h', SA 59 b n c val h0 h' (breakPatterns d x y) → K (.tuple #[]) h') :
    CallsH Try.prog 77 #[slV b n c, .int .i64 x, .int .i64 y, f] h K ⟨⟩ := by
  refine n77_calls ?_
  unfold n77
  have st := fun a x K h => Hp_store (P := Try.prog) (t := 59) (a := a) (v := val x) (K := K) (h := h) (by kernel_rfl) (hone x)
  obtain ⟨l, rfl⟩ : ∃ l, y = x + l := ⟨y - x, by omega⟩
  have em : ((x + l : Nat) : Int) - (x : Int) = (l : Int) := by omega
  simp (disch := omega) only [em, Hp_sub_i64, ValI_iff]
  by_cases h8 : 8 ≤ l
  · rw [brk_eq h8] at H
    have hb := s.lt
    have hzz : h0.size ≤ h.size := s.mod.size
    have hqb : h.size ≠ b := by omega
    simp (disch := omega)
    refine (fun key => key _ ?_ ?_ : (∀ g0, SA 59 b n c val h0 g0 d → Rw64 g0 h.size (UInt64.ofNat l) → CallsH Try.prog 71 _ g0 _ ⟨⟩) → _) (fun g0 s0 r0 => ?_)
    · exact s.pushed.side hqb hzz
    · unfold Rw64
      have h1 : (h.push (.cells #[.int .u64 0] 108))[h.size]? = some (.cells #[.int .u64 0] 108) := get_pushed rfl
      rw [hset_of_block h1, get_put (get_some_lt h1)]
      have : (UInt64.ofNat l).toNat = l := by rw [UInt64.toNat_ofNat']; omega
      simp [w64, this]
    refine npow_c (by omega) ?_
    have hM := bitsLen_pow (show 0 < l by omega)
    generalize (2 : Nat) ^ bitsLen l = M at hM H ⊢
    obtain ⟨i0, hi0⟩ : ∃ i0, i0 = x + l / 4 * 2 - 1 := ⟨_, rfl⟩
    rw [← hi0] at H
    simp (disch := omega)
    have ei : (x : Int) + (l : Int) / 4 * 2 - 1 = (i0 : Int) := by omega
    rw [ei]
    refine loopX1 (α := Nat × UInt64 × Array α) (fun a => .int .i64 a.1) (fun a g => SA 59 b n c val h0 g a.2.2 ∧ Rw64 g h.size a.2.1 ∧ i0 ≤ a.1 ∧ a.1 ≤ i0 + 3 ∧ brk x l M (i0 + 3 - a.1) a.1 a.2 = brk x l M 3 i0 (UInt64.ofNat l, d)) (fun a => i0 + 3 - a.1) (i0, UInt64.ofNat l, d) rfl ⟨s0, r0, Nat.le_refl _, by dsimp only; omega, by dsimp only; rw [Nat.add_sub_cancel_left]⟩ ?_
    rintro ⟨i, r, d1⟩ g ⟨s1, r1, hi, hi3, ht⟩ X hX
    dsimp only at s1 r1 hi hi3 ht hX ⊢
    by_cases hlt : i < i0 + 3
    · obtain ⟨k, hk⟩ : ∃ k, i0 + 3 - i = k + 1 := ⟨i0 + 2 - i, by omega⟩
      rw [hk, brk] at ht
      simp (disch := omega)
      refine next_c r1 fun g2 r2 m2 => ?_
      have s2 : SA 59 b n c val h0 g2 d1 := ⟨s1.own.mod m2 (fun b' hb' e => hqb (by cases hb'; exact e.symm)), s1.mod.trans m2 (fun z hz e => absurd (show z = h.size from e) (by omega))⟩
      simp (disch := omega)
      have hrl := u64_lt (xorNext r)
      rw [show w64 (xorNext r) = .int .u64 ((xorNext r).toNat : Int) from rfl, Hp_and_u64 (by omega) (by omega) (by omega) (by omega)]
      have e2 : (((xorNext r).toNat : Int).toNat &&& ((M : Int) - 1).toNat : Nat) = (xorNext r).toNat &&& (M - 1) := by
        rw [Int.toNat_natCast, show ((M : Int) - 1).toNat = M - 1 by omega]
      rw [e2]
      have ho : (xorNext r).toNat &&& (M - 1) ≤ M - 1 := Nat.and_le_right
      unfold breakStep at ht
      dsimp only at ht
      generalize (xorNext r).toNat &&& (M - 1) = o at ho ht ⊢
      simp (disch := omega)
      obtain ⟨oth, hoth⟩ : ∃ oth, oth = if o ≥ l then o - l else o := ⟨_, rfl⟩
      rw [← hoth] at ht
      have hol : oth < l := by rw [hoth]; split <;> omega
      refine JoinN_in1 (fun w g' => g' = g2 ∧ w = .int .i64 oth) (fun kk hkk => ?_) (fun w g' hw => ?_)
      · by_cases hge : o ≥ l
        · rw [if_pos hge] at hoth
          simp (disch := omega)
          exact hkk _ _ ⟨rfl, by congr 1; omega⟩
        · rw [if_neg hge] at hoth
          simp (disch := omega)
          exact hkk _ _ ⟨rfl, by rw [hoth]⟩
      · obtain ⟨rfl, rfl⟩ := hw
        have wi := s2.get (i := i) (by omega)
        have wj := s2.get (i := x + oth) (by omega)
        obtain ⟨⟨wu, wwu⟩, wwf⟩ := s2.get2 (i := i) (j := x + oth) (by omega) (by omega) (val d1[x + oth]!)
        unfold slV
        simp (disch := omega) [wi.1, wi.2, wj.1, wj.2, wwu, wwf, st]
        have s3 := s2.swap (i := i) (j := x + oth) (by omega) (by omega)
        refine hX (i + 1, xorNext r, _) _ _ (by simp) ⟨s3, ?_, by dsimp only; omega, by dsimp only; omega, by dsimp only; rw [show i0 + 3 - (i + 1) = k by omega]; exact ht⟩ (by dsimp only; omega)
        have m3 : Mod (· = b) g' (hset (hset g' (elt ⟨b, 0, none⟩ i) (val d1[x + oth]!)) (elt ⟨b, 0, none⟩ (x + oth)) (val d1[i]!)) := Mod.setIn (Mod.setIn (Mod.refl _ _) (.inl (by simp))) (.inl (by simp))
        exact (m3.block _ (get_some_lt r2) hqb).trans r2
    · have : i0 + 3 - i = 0 := by omega
      rw [this, brk] at ht
      rw [← ht] at H
      simp (disch := omega)
      exact H _ s1
  · have hbp : breakPatterns d x (x + l) = d := by
      unfold breakPatterns
      rw [Nat.add_sub_cancel_left]
      exact if_neg h8
    rw [hbp] at H
    simp (disch := omega)
    exact H _ s

set_option maxHeartbeats 2000000 in
theorem brkO_c {x y : Nat} (hone : ∀ x, one (val x) = true) (s : SA 3 b n c val h0 h d) (hn : n < 100000) (hxy : x < y) (hy : y ≤ n) (H : ∀ h', SA 3 b n c val h0 h' (breakPatterns d x y) → K (.tuple #[]) h') :
    CallsH Try.prog 59 #[slV b n c, .int .i64 x, .int .i64 y] h K ⟨⟩ := by
  refine n59_calls ?_
  unfold n59
  have st := fun a x K h => Hp_store (P := Try.prog) (t := 3) (a := a) (v := val x) (K := K) (h := h) (by kernel_rfl) (hone x)
  obtain ⟨l, rfl⟩ : ∃ l, y = x + l := ⟨y - x, by omega⟩
  have em : ((x + l : Nat) : Int) - (x : Int) = (l : Int) := by omega
  simp (disch := omega) only [em, Hp_sub_i64, ValI_iff]
  by_cases h8 : 8 ≤ l
  · rw [brk_eq h8] at H
    have hb := s.lt
    have hzz : h0.size ≤ h.size := s.mod.size
    have hqb : h.size ≠ b := by omega
    simp (disch := omega)
    refine (fun key => key _ ?_ ?_ : (∀ g0, SA 3 b n c val h0 g0 d → Rw64 g0 h.size (UInt64.ofNat l) → CallsH Try.prog 71 _ g0 _ ⟨⟩) → _) (fun g0 s0 r0 => ?_)
    · exact s.pushed.side hqb hzz
    · unfold Rw64
      have h1 : (h.push (.cells #[.int .u64 0] 108))[h.size]? = some (.cells #[.int .u64 0] 108) := get_pushed rfl
      rw [hset_of_block h1, get_put (get_some_lt h1)]
      have : (UInt64.ofNat l).toNat = l := by rw [UInt64.toNat_ofNat']; omega
      simp [w64, this]
    refine npow_c (by omega) ?_
    have hM := bitsLen_pow (show 0 < l by omega)
    generalize (2 : Nat) ^ bitsLen l = M at hM H ⊢
    obtain ⟨i0, hi0⟩ : ∃ i0, i0 = x + l / 4 * 2 - 1 := ⟨_, rfl⟩
    rw [← hi0] at H
    simp (disch := omega)
    have ei : (x : Int) + (l : Int) / 4 * 2 - 1 = (i0 : Int) := by omega
    rw [ei]
    refine loopX1 (α := Nat × UInt64 × Array α) (fun a => .int .i64 a.1) (fun a g => SA 3 b n c val h0 g a.2.2 ∧ Rw64 g h.size a.2.1 ∧ i0 ≤ a.1 ∧ a.1 ≤ i0 + 3 ∧ brk x l M (i0 + 3 - a.1) a.1 a.2 = brk x l M 3 i0 (UInt64.ofNat l, d)) (fun a => i0 + 3 - a.1) (i0, UInt64.ofNat l, d) rfl ⟨s0, r0, Nat.le_refl _, by dsimp only; omega, by dsimp only; rw [Nat.add_sub_cancel_left]⟩ ?_
    rintro ⟨i, r, d1⟩ g ⟨s1, r1, hi, hi3, ht⟩ X hX
    dsimp only at s1 r1 hi hi3 ht hX ⊢
    by_cases hlt : i < i0 + 3
    · obtain ⟨k, hk⟩ : ∃ k, i0 + 3 - i = k + 1 := ⟨i0 + 2 - i, by omega⟩
      rw [hk, brk] at ht
      simp (disch := omega)
      refine next_c r1 fun g2 r2 m2 => ?_
      have s2 : SA 3 b n c val h0 g2 d1 := ⟨s1.own.mod m2 (fun b' hb' e => hqb (by cases hb'; exact e.symm)), s1.mod.trans m2 (fun z hz e => absurd (show z = h.size from e) (by omega))⟩
      simp (disch := omega)
      have hrl := u64_lt (xorNext r)
      rw [show w64 (xorNext r) = .int .u64 ((xorNext r).toNat : Int) from rfl, Hp_and_u64 (by omega) (by omega) (by omega) (by omega)]
      have e2 : (((xorNext r).toNat : Int).toNat &&& ((M : Int) - 1).toNat : Nat) = (xorNext r).toNat &&& (M - 1) := by
        rw [Int.toNat_natCast, show ((M : Int) - 1).toNat = M - 1 by omega]
      rw [e2]
      have ho : (xorNext r).toNat &&& (M - 1) ≤ M - 1 := Nat.and_le_right
      unfold breakStep at ht
      dsimp only at ht
      generalize (xorNext r).toNat &&& (M - 1) = o at ho ht ⊢
      simp (disch := omega)
      obtain ⟨oth, hoth⟩ : ∃ oth, oth = if o ≥ l then o - l else o := ⟨_, rfl⟩
      rw [← hoth] at ht
      have hol : oth < l := by rw [hoth]; split <;> omega
      refine JoinN_in1 (fun w g' => g' = g2 ∧ w = .int .i64 oth) (fun kk hkk => ?_) (fun w g' hw => ?_)
      · by_cases hge : o ≥ l
        · rw [if_pos hge] at hoth
          simp (disch := omega)
          exact hkk _ _ ⟨rfl, by congr 1; omega⟩
        · rw [if_neg hge] at hoth
          simp (disch := omega)
          exact hkk _ _ ⟨rfl, by rw [hoth]⟩
      · obtain ⟨rfl, rfl⟩ := hw
        have wi := s2.get (i := i) (by omega)
        have wj := s2.get (i := x + oth) (by omega)
        obtain ⟨⟨wu, wwu⟩, wwf⟩ := s2.get2 (i := i) (j := x + oth) (by omega) (by omega) (val d1[x + oth]!)
        unfold slV
        simp (disch := omega) [wi.1, wi.2, wj.1, wj.2, wwu, wwf, st]
        have s3 := s2.swap (i := i) (j := x + oth) (by omega) (by omega)
        refine hX (i + 1, xorNext r, _) _ _ (by simp) ⟨s3, ?_, by dsimp only; omega, by dsimp only; omega, by dsimp only; rw [show i0 + 3 - (i + 1) = k by omega]; exact ht⟩ (by dsimp only; omega)
        have m3 : Mod (· = b) g' (hset (hset g' (elt ⟨b, 0, none⟩ i) (val d1[x + oth]!)) (elt ⟨b, 0, none⟩ (x + oth)) (val d1[i]!)) := Mod.setIn (Mod.setIn (Mod.refl _ _) (.inl (by simp))) (.inl (by simp))
        exact (m3.block _ (get_some_lt r2) hqb).trans r2
    · have : i0 + 3 - i = 0 := by omega
      rw [this, brk] at ht
      rw [← ht] at H
      simp (disch := omega)
      exact H _ s1
  · have hbp : breakPatterns d x (x + l) = d := by
      unfold breakPatterns
      rw [Nat.add_sub_cancel_left]
      exact if_neg h8
    rw [hbp] at H
    simp (disch := omega)
    exact H _ s
end
end Go.Proofs.Ytlligpgjkmfhpaa
