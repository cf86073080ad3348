/- Sorting elements of two cells: part 7. Sorting elements of two cells: part 9. Sorting elements of two cells: part 10. Sorting elements of two cells: part 11. -/
import Derived.Test.YtgcllbelgakjgaaSrtC
import Derived.Test.YtgcllbelgakjgaaSrrB
import Derived.Test.YtgcllbelgakjgaaSrtD
set_option linter.unusedSimpArgs false
set_option linter.unusedVariables false
set_option linter.unusedSectionVars false
namespace Go.Proofs.Ytgcllbelgakjgaa
open Go.Vc Go.Sort

section
variable {K : Value → Heap → Prop} {h0 h : Heap} {b n c : Nat} {α : Type} [Inhabited α] {pq : α → Int × Int} {d : Array α} {f : Value} {cm : α → α → Int}
set_option maxHeartbeats 1000000 in
theorem ord2R_c {i j q w : Nat} (hf : CmpOk2 Try.prog f b h0 (val2 pq) cm) (s : SB 24 b n c pq h0 h d) (hq : q ≠ b) (hz : h0.size ≤ q) (hw : Sw h q w) (hwb : w < 1000) (hn : n < 100000) (hi : i < n) (hj : j < n)
    (H : ∀ h', SB 24 b n c pq h0 h' d → Sw h' q (order2 (ltC cm) d i j w).2.2 → K (.tuple #[.int .i64 (order2 (ltC cm) d i j w).1, .int .i64 (order2 (ltC cm) d i j w).2.1]) h') :
    CallsH Try.prog 84 #[slV b n c, .int .i64 i, .int .i64 j, .pointer (some ⟨q, 0, none⟩), f] h K ⟨⟩ := by
  refine n84_calls ?_
  unfold n84 slV
  have ri := s.get hi
  have rj := s.get hj
  simp (disch := omega) [ri.1, rj.1]
  refine hf _ _ _ _ s.mod fun gX eX => ?_
  replace s := s.ext eX
  have ri := s.get hi
  have rj := s.get hj
  replace hw : Sw gX q w := (eX.block _ (get_some_lt hw)).trans hw
  unfold order2 at H
  by_cases hl : cm d[j]! d[i]! < 0
  · have hlt : ltC cm d[j]! d[i]! = true := decide_eq_true hl
    rw [if_pos hlt] at H
    have hc : hcell gX ⟨q, 0, none⟩ = some (.int .i64 w) := by unfold hcell; unfold Sw at hw; simp [hw]
    have hfz : hfrozen gX ⟨q, 0, none⟩ = false := by unfold hfrozen; unfold Sw at hw; simp [hw]
    simp (disch := omega) [hl, hc, hfz]
    refine H _ (s.side hq hz) ?_
    unfold Sw at hw ⊢
    rw [hset_of_block hw, get_put (get_some_lt hw)]
    simp
  · have hlt : ¬ ltC cm d[j]! d[i]! = true := by rw [show ltC cm d[j]! d[i]! = false from decide_eq_false hl]; simp
    rw [if_neg hlt] at H
    simp (disch := omega) [hl]
    exact H _ s hw
theorem medR_c {i j k q w : Nat} (hf : CmpOk2 Try.prog f b h0 (val2 pq) cm) (s : SB 24 b n c pq h0 h d) (hq : q ≠ b) (hz : h0.size ≤ q) (hw : Sw h q w) (hwb : w < 900) (hn : n < 100000) (hi : i < n) (hj : j < n) (hk : k < n)
    (H : ∀ h', SB 24 b n c pq h0 h' d → Sw h' q (median (ltC cm) d i j k w).2 → K (.int .i64 (median (ltC cm) d i j k w).1) h') :
    CallsH Try.prog 83 #[slV b n c, .int .i64 i, .int .i64 j, .int .i64 k, .pointer (some ⟨q, 0, none⟩), f] h K ⟨⟩ := by
  refine n83_calls ?_
  unfold n83
  have b1 := ord2_bd (cm := cm) (d := d) (w := w) hi hj
  have b2 := ord2_bd (cm := cm) (d := d) (w := (order2 (ltC cm) d i j w).2.2) b1.2.1 hk
  refine ord2R_c hf s hq hz hw (by omega) hn hi hj fun g1 s1 w1 => ?_
  simp (disch := omega)
  refine ord2R_c hf s1 hq hz w1 (by omega) hn b1.2.1 hk fun g2 s2 w2 => ?_
  simp (disch := omega)
  refine ord2R_c hf s2 hq hz w2 (by omega) hn b1.1 b2.1 fun g3 s3 w3 => ?_
  simp (disch := omega)
  exact H _ s3 w3
theorem mdAR_c {i q w : Nat} (hf : CmpOk2 Try.prog f b h0 (val2 pq) cm) (s : SB 24 b n c pq h0 h d) (hq : q ≠ b) (hz : h0.size ≤ q) (hw : Sw h q w) (hwb : w < 900) (hn : n < 100000) (hi0 : 0 < i) (hi : i + 1 < n)
    (H : ∀ h', SB 24 b n c pq h0 h' d → Sw h' q (medianAdjacent (ltC cm) d i w).2 → K (.int .i64 (medianAdjacent (ltC cm) d i w).1) h') :
    CallsH Try.prog 82 #[slV b n c, .int .i64 i, .pointer (some ⟨q, 0, none⟩), f] h K ⟨⟩ := by
  refine n82_calls ?_
  unfold n82
  obtain ⟨m, rfl⟩ : ∃ m, i = m + 1 := ⟨i - 1, by omega⟩
  simp (disch := omega)
  refine medR_c (i := m) (j := m + 1) (k := m + 1 + 1) hf s hq hz hw hwb hn (by omega) (by omega) (by omega) fun g s1 w1 => ?_
  exact H g s1 w1
set_option maxHeartbeats 1000000 in
theorem pivR_c {x y : Nat} (hf : CmpOk2 Try.prog f b h0 (val2 pq) cm) (s : SB 24 b n c pq h0 h d) (hn : n < 100000) (hxy : x < y) (hy : y ≤ n)
    (H : ∀ h', SB 24 b n c pq h0 h' d → K (.tuple #[.int .i64 (choosePivot (ltC cm) d x y).1, .int .i64 (hintV (choosePivot (ltC cm) d x y).2)]) h') :
    CallsH Try.prog 72 #[slV b n c, .int .i64 x, .int .i64 y, f] h K ⟨⟩ := by
  refine n72_calls ?_
  unfold n72
  obtain ⟨l, rfl⟩ : ∃ l, y = x + l := ⟨y - x, by omega⟩
  have em : ((x + l : Nat) : Int) - (x : Int) = (l : Int) := by omega
  have hb := s.lt
  have hzz : h0.size ≤ h.size := s.mod.size
  have wq : Sw (h.push (.cells #[.int .i64 0] 3)) h.size 0 := get_pushed rfl
  have sq := s.pushed (o := .cells #[.int .i64 0] 3)
  simp (disch := omega) only [em, Hp_sub_i64, ValI_iff]
  simp (disch := omega)
  have e1 : (x : Int) + (l : Int) / 4 = ((x + l / 4 * 1 : Nat) : Int) := by omega
  have e2 : (x : Int) + (l : Int) / 4 * 2 = ((x + l / 4 * 2 : Nat) : Int) := by omega
  have e3 : (x : Int) + (l : Int) / 4 * 3 = ((x + l / 4 * 3 : Nat) : Int) := by omega
  rw [e1, e2, e3]
  generalize hg : h.push (.cells #[.int .i64 0] 3) = g0 at wq sq ⊢
  have hcp : choosePivot (ltC cm) d x (x + l) = (fun r : Nat × Nat => (r.1, if r.2 = 0 then Hint.increasing else if r.2 = 12 then Hint.decreasing else Hint.unknown)) (if l ≥ 8 then (if l ≥ 50 then
      median (ltC cm) d (medianAdjacent (ltC cm) d (x + l / 4 * 1) 0).1 (medianAdjacent (ltC cm) d (x + l / 4 * 2) (medianAdjacent (ltC cm) d (x + l / 4 * 1) 0).2).1 (medianAdjacent (ltC cm) d (x + l / 4 * 3) (medianAdjacent (ltC cm) d (x + l / 4 * 2) (medianAdjacent (ltC cm) d (x + l / 4 * 1) 0).2).2).1 (medianAdjacent (ltC cm) d (x + l / 4 * 3) (medianAdjacent (ltC cm) d (x + l / 4 * 2) (medianAdjacent (ltC cm) d (x + l / 4 * 1) 0).2).2).2
      else median (ltC cm) d (x + l / 4 * 1) (x + l / 4 * 2) (x + l / 4 * 3) 0) else (x + l / 4 * 2, 0)) := by
    unfold choosePivot
    rw [Nat.add_sub_cancel_left]
  generalize choosePivot (ltC cm) d x (x + l) = R at hcp H
  have hi1 : 8 ≤ l → 0 < x + l / 4 * 1 ∧ x + l / 4 * 1 + 1 < n := fun _ => by omega
  have hi2 : 8 ≤ l → 0 < x + l / 4 * 2 ∧ x + l / 4 * 2 + 1 < n := fun _ => by omega
  have hi3 : 8 ≤ l → 0 < x + l / 4 * 3 ∧ x + l / 4 * 3 + 1 < n := fun _ => by omega
  have hi2' : x + l / 4 * 2 < n := by omega
  generalize x + l / 4 * 1 = i1 at hcp hi1 ⊢
  generalize x + l / 4 * 2 = i2 at hcp hi2 hi2' ⊢
  generalize x + l / 4 * 3 = i3 at hcp hi3 ⊢
  have hqb : h.size ≠ b := by omega
  refine JoinN_in1 (fun w g => ∃ pv sw : Nat, w = .int .i64 pv ∧ SB 24 b n c pq h0 g d ∧ Sw g h.size sw ∧ sw < 1000 ∧ (fun r : Nat × Nat => (r.1, if r.2 = 0 then Hint.increasing else if r.2 = 12 then Hint.decreasing else Hint.unknown)) (pv, sw) = R) (fun kk hkk => ?_) (fun w g hw => ?_)
  · by_cases h8 : 8 ≤ l
    · rw [if_pos h8] at hcp
      simp (disch := omega)
      have q1 := hi1 h8
      have q2 := hi2 h8
      have q3 := hi3 h8
      refine JoinN_in3 (fun w1 w2 w3 g => ∃ a1 a2 a3 sw : Nat, w1 = .int .i64 a1 ∧ w2 = .int .i64 a2 ∧ w3 = .int .i64 a3 ∧ a1 < n ∧ a2 < n ∧ a3 < n ∧ SB 24 b n c pq h0 g d ∧ Sw g h.size sw ∧ sw < 500 ∧ (fun r : Nat × Nat => (r.1, if r.2 = 0 then Hint.increasing else if r.2 = 12 then Hint.decreasing else Hint.unknown)) (median (ltC cm) d a1 a2 a3 sw) = R) (fun k3 hk3 => ?_) (fun w1 w2 w3 g hw => ?_)
      · by_cases h50 : 50 ≤ l
        · rw [if_pos h50] at hcp
          simp (disch := omega)
          have b1 := med_bd (cm := cm) (d := d) (w := 0) (m := n) (show i1 - 1 < n by omega) (show i1 < n by omega) (show i1 + 1 < n by omega)
          have b2 := med_bd (cm := cm) (d := d) (w := (medianAdjacent (ltC cm) d i1 0).2) (m := n) (show i2 - 1 < n by omega) (show i2 < n by omega) (show i2 + 1 < n by omega)
          have b3 := med_bd (cm := cm) (d := d) (w := (medianAdjacent (ltC cm) d i2 (medianAdjacent (ltC cm) d i1 0).2).2) (m := n) (show i3 - 1 < n by omega) (show i3 < n by omega) (show i3 + 1 < n by omega)
          have b1' : (medianAdjacent (ltC cm) d i1 0).1 < n ∧ (medianAdjacent (ltC cm) d i1 0).2 ≤ 0 + 3 := b1
          have b2' : (medianAdjacent (ltC cm) d i2 (medianAdjacent (ltC cm) d i1 0).2).1 < n ∧ (medianAdjacent (ltC cm) d i2 (medianAdjacent (ltC cm) d i1 0).2).2 ≤ (medianAdjacent (ltC cm) d i1 0).2 + 3 := b2
          have b3' : (medianAdjacent (ltC cm) d i3 (medianAdjacent (ltC cm) d i2 (medianAdjacent (ltC cm) d i1 0).2).2).1 < n ∧ (medianAdjacent (ltC cm) d i3 (medianAdjacent (ltC cm) d i2 (medianAdjacent (ltC cm) d i1 0).2).2).2 ≤ (medianAdjacent (ltC cm) d i2 (medianAdjacent (ltC cm) d i1 0).2).2 + 3 := b3
          refine mdAR_c hf sq hqb hzz wq (by omega) hn q1.1 q1.2 fun g1 s1 w1 => ?_
          refine mdAR_c hf s1 hqb hzz w1 (by omega) hn q2.1 q2.2 fun g2 s2 w2 => ?_
          refine mdAR_c hf s2 hqb hzz w2 (by omega) hn q3.1 q3.2 fun g3 s3 w3 => ?_
          exact hk3 _ _ _ _ ⟨_, _, _, _, rfl, rfl, rfl, b1'.1, b2'.1, b3'.1, s3, w3, by omega, hcp.symm⟩
        · rw [if_neg h50] at hcp
          simp (disch := omega)
          exact hk3 _ _ _ _ ⟨_, _, _, _, rfl, rfl, rfl, by omega, by omega, by omega, sq, wq, by omega, hcp.symm⟩
      · obtain ⟨a1, a2, a3, sw, rfl, rfl, rfl, h1, h2, h3, s1, w1, hsw, he⟩ := hw
        have bb := med_bd (cm := cm) (d := d) (w := sw) h1 h2 h3
        refine medR_c hf s1 hqb hzz w1 (by omega) hn h1 h2 h3 fun g2 s2 w2 => ?_
        exact hkk _ _ ⟨_, _, rfl, s2, w2, by omega, he⟩
    · rw [if_neg h8] at hcp
      simp (disch := omega)
      exact hkk _ _ ⟨i2, 0, rfl, sq, wq, by omega, hcp.symm⟩
  · obtain ⟨pv, sw, rfl, s1, w1, hsw, he⟩ := hw
    rw [← he] at H
    have hc : hcell g ⟨h.size, 0, none⟩ = some (.int .i64 sw) := by unfold hcell; unfold Sw at w1; simp [w1]
    simp (disch := omega) [hc]
    dsimp only at H
    by_cases z0 : sw = 0
    · rw [if_pos z0] at H
      simp (disch := omega) [z0]
      exact H _ s1
    · rw [if_neg z0] at H
      simp (disch := omega)
      by_cases z1 : sw = 12
      · rw [if_pos z1] at H
        simp (disch := omega) [z1]
        exact H _ s1
      · rw [if_neg z1] at H
        simp (disch := omega)
        exact H _ s1
end
end Go.Proofs.Ytgcllbelgakjgaa
set_option linter.unusedSimpArgs false
set_option linter.unusedVariables false
set_option linter.unusedSectionVars false
namespace Go.Proofs.Ytgcllbelgakjgaa
open Go.Vc Go.Sort

section
variable {K : Value → Heap → Prop} {h0 h : Heap} {b n c : Nat} {α : Type} [Inhabited α] {pq : α → Int × Int} {d : Array α} {f : Value} {cm : α → α → Int}
set_option maxHeartbeats 2000000 in
theorem brkR_c {x y : Nat} (hone : True) (s : SB 24 b n c pq h0 h d) (hn : n < 100000) (hxy : x < y) (hy : y ≤ n) (H : ∀ h', SB 24 b n c pq h0 h' (breakPatterns d x y) → K (.tuple #[]) h') :
    CallsH Try.prog 71 #[slV b n c, .int .i64 x, .int .i64 y, f] h K ⟨⟩ := by
  refine n71_calls ?_
  unfold n71
  obtain ⟨l, rfl⟩ : ∃ l, y = x + l := ⟨y - x, by omega⟩
  have em : ((x + l : Nat) : Int) - (x : Int) = (l : Int) := by omega
  simp (disch := omega) only [em, Hp_sub_i64, ValI_iff]
  by_cases h8 : 8 ≤ l
  · rw [brk_eq h8] at H
    have hb := s.lt
    have hzz : h0.size ≤ h.size := s.mod.size
    have hqb : h.size ≠ b := by omega
    simp (disch := omega)
    refine (fun key => key _ ?_ ?_ : (∀ g0, SB 24 b n c pq h0 g0 d → Rw64 g0 h.size (UInt64.ofNat l) → CallsH Try.prog 80 _ g0 _ ⟨⟩) → _) (fun g0 s0 r0 => ?_)
    · exact s.pushed.side hqb hzz
    · unfold Rw64
      have h1 : (h.push (.cells #[.int .u64 0] 120))[h.size]? = some (.cells #[.int .u64 0] 120) := get_pushed rfl
      rw [hset_of_block h1, get_put (get_some_lt h1)]
      have : (UInt64.ofNat l).toNat = l := by rw [UInt64.toNat_ofNat']; omega
      simp [w64, this]
    refine npow_c (by omega) ?_
    have hM := bitsLen_pow (show 0 < l by omega)
    generalize (2 : Nat) ^ bitsLen l = M at hM H ⊢
    obtain ⟨i0, hi0⟩ : ∃ i0, i0 = x + l / 4 * 2 - 1 := ⟨_, rfl⟩
    rw [← hi0] at H
    simp (disch := omega)
    have ei : (x : Int) + (l : Int) / 4 * 2 - 1 = (i0 : Int) := by omega
    rw [ei]
    refine loopX1 (α := Nat × UInt64 × Array α) (fun a => .int .i64 a.1) (fun a g => SB 24 b n c pq h0 g a.2.2 ∧ Rw64 g h.size a.2.1 ∧ i0 ≤ a.1 ∧ a.1 ≤ i0 + 3 ∧ brk x l M (i0 + 3 - a.1) a.1 a.2 = brk x l M 3 i0 (UInt64.ofNat l, d)) (fun a => i0 + 3 - a.1) (i0, UInt64.ofNat l, d) rfl ⟨s0, r0, Nat.le_refl _, by dsimp only; omega, by dsimp only; rw [Nat.add_sub_cancel_left]⟩ ?_
    rintro ⟨i, r, d1⟩ g ⟨s1, r1, hi, hi3, ht⟩ X hX
    dsimp only at s1 r1 hi hi3 ht hX ⊢
    by_cases hlt : i < i0 + 3
    · obtain ⟨k, hk⟩ : ∃ k, i0 + 3 - i = k + 1 := ⟨i0 + 2 - i, by omega⟩
      rw [hk, brk] at ht
      simp (disch := omega)
      refine next_c r1 fun g2 r2 m2 => ?_
      have s2 : SB 24 b n c pq h0 g2 d1 := ⟨s1.own.mod m2 (fun b' hb' e => hqb (by cases hb'; exact e.symm)), s1.mod.trans m2 (fun z hz e => absurd (show z = h.size from e) (by omega))⟩
      simp (disch := omega)
      have hrl := u64_lt (xorNext r)
      rw [show w64 (xorNext r) = .int .u64 ((xorNext r).toNat : Int) from rfl, Hp_and_u64 (by omega) (by omega) (by omega) (by omega)]
      have e2 : (((xorNext r).toNat : Int).toNat &&& ((M : Int) - 1).toNat : Nat) = (xorNext r).toNat &&& (M - 1) := by
        rw [Int.toNat_natCast, show ((M : Int) - 1).toNat = M - 1 by omega]
      rw [e2]
      have ho : (xorNext r).toNat &&& (M - 1) ≤ M - 1 := Nat.and_le_right
      unfold breakStep at ht
      dsimp only at ht
      generalize (xorNext r).toNat &&& (M - 1) = o at ho ht ⊢
      simp (disch := omega)
      obtain ⟨oth, hoth⟩ : ∃ oth, oth = if o ≥ l then o - l else o := ⟨_, rfl⟩
      rw [← hoth] at ht
      have hol : oth < l := by rw [hoth]; split <;> omega
      refine JoinN_in1 (fun w g' => g' = g2 ∧ w = .int .i64 oth) (fun kk hkk => ?_) (fun w g' hw => ?_)
      · by_cases hge : o ≥ l
        · rw [if_pos hge] at hoth
          simp (disch := omega)
          exact hkk _ _ ⟨rfl, by congr 1; omega⟩
        · rw [if_neg hge] at hoth
          simp (disch := omega)
          exact hkk _ _ ⟨rfl, by rw [hoth]⟩
      · obtain ⟨rfl, rfl⟩ := hw
        have wi := s2.get (i := i) (by omega)
        have wj := s2.get (i := x + oth) (by omega)
        obtain ⟨⟨wu, wwu⟩, wwf⟩ := s2.get2 (i := i) (j := x + oth) (by omega) (by omega) d1[x + oth]!
        unfold slV
        simp (disch := omega) [wi.1, wi.2, wj.1, wj.2, wwu, wwf]
        have s3 := s2.swap (i := i) (j := x + oth) (by omega) (by omega)
        refine hX (i + 1, xorNext r, _) _ _ (by simp) ⟨s3, ?_, by dsimp only; omega, by dsimp only; omega, by dsimp only; rw [show i0 + 3 - (i + 1) = k by omega]; exact ht⟩ (by dsimp only; omega)
        have m3 : Mod (· = b) g' (hset (hset (hset (hset g' (elt ⟨b, 0, none⟩ (i * 2)) (.int .i64 (pq d1[x + oth]!).1)) (elt ⟨b, 0, none⟩ (i * 2 + 1)) (.int .i64 (pq d1[x + oth]!).2)) (elt ⟨b, 0, none⟩ ((x + oth) * 2)) (.int .i64 (pq d1[i]!).1)) (elt ⟨b, 0, none⟩ ((x + oth) * 2 + 1)) (.int .i64 (pq d1[i]!).2)) := Mod.setIn (Mod.setIn (Mod.setIn (Mod.setIn (Mod.refl _ _) (.inl (by simp))) (.inl (by simp))) (.inl (by simp))) (.inl (by simp))
        exact (m3.block _ (get_some_lt r2) hqb).trans r2
    · have : i0 + 3 - i = 0 := by omega
      rw [this, brk] at ht
      rw [← ht] at H
      simp (disch := omega)
      exact H _ s1
  · have hbp : breakPatterns d x (x + l) = d := by
      unfold breakPatterns
      rw [Nat.add_sub_cancel_left]
      exact if_neg h8
    rw [hbp] at H
    simp (disch := omega)
    exact H _ s
end
end Go.Proofs.Ytgcllbelgakjgaa
set_option linter.unusedSimpArgs false
set_option linter.unusedVariables false
set_option linter.unusedSectionVars false
namespace Go.Proofs.Ytgcllbelgakjgaa
open Go.Vc Go.Sort

section
variable {K : Value → Heap → Prop} {h0 h : Heap} {b n c : Nat} {α : Type} [Inhabited α] {pq : α → Int × Int} {d : Array α} {f : Value} {cm : α → α → Int}
set_option maxHeartbeats 4000000 in
theorem pdqR_c (hf : CmpOk2 Try.prog f b h0 (val2 pq) cm) (hone : True) (hn : n < 100000) : ∀ (N : Nat) {K : Value → Heap → Prop} {h : Heap} {d : Array α} {x y lim : Nat}, y - x ≤ N → SB 24 b n c pq h0 h d → x ≤ y → y ≤ n → lim < 100000 → (∀ h', SB 24 b n c pq h0 h' (pdq (ltC cm) d x y lim true true) → K (.tuple #[]) h') →
    CallsH Try.prog 64 #[slV b n c, .int .i64 x, .int .i64 y, .int .i64 lim, f] h K ⟨⟩ := by
  intro N
  induction N using Nat.strongRecOn with
  | _ N ih =>
  intro K h d x y lim hN s hxy hy hlim H
  refine n64_calls ?_
  unfold n64
  refine loopX5 (α := Nat × Nat × Nat × Bool × Bool × Array α) (fun a => .int .i64 a.1) (fun a => .int .i64 a.2.1) (fun a => .int .i64 a.2.2.1) (fun a => .bool a.2.2.2.1) (fun a => .bool a.2.2.2.2.1) (fun a g => SB 24 b n c pq h0 g a.2.2.2.2.2 ∧ a.1 ≤ a.2.1 ∧ a.2.1 ≤ n ∧ a.2.1 - a.1 ≤ N ∧ a.2.2.1 < 100000 ∧ pdq (ltC cm) a.2.2.2.2.2 a.1 a.2.1 a.2.2.1 a.2.2.2.1 a.2.2.2.2.1 = pdq (ltC cm) d x y lim true true) (fun a => a.2.1 - a.1) (x, y, lim, true, true, d) ⟨rfl, rfl, rfl, rfl, rfl⟩ ⟨s, hxy, hy, hN, hlim, rfl⟩ ?_
  generalize pdq (ltC cm) d x y lim true true = T at H ⊢
  clear s hxy hy hN hlim
  rintro ⟨x, y, lim, wb, wp, d⟩ g ⟨s, hxy, hy, hN, hlim, ht⟩ X hX
  dsimp only at s hxy hy hN hlim ht hX ⊢
  refine JoinN.mk ?_
  by_cases h12 : y - x ≤ 12
  · simp (disch := omega)
    rw [pdq, if_pos h12] at ht
    refine insR_c hf hone s hn hxy hy fun g1 s1 => ?_
    exact H _ (ht ▸ s1)
  · by_cases hl0 : lim = 0
    · simp (disch := omega)
      rw [pdq, if_neg h12, if_pos hl0] at ht
      refine heapR_c hf hone s hn (by omega) hy fun g1 s1 => ?_
      exact H _ (ht ▸ s1)
    · obtain ⟨d1, e1⟩ : ∃ d1, d1 = if !wb then breakPatterns d x y else d := ⟨_, rfl⟩
      obtain ⟨l1, e2⟩ : ∃ l1, l1 = if !wb then lim - 1 else lim := ⟨_, rfl⟩
      obtain ⟨cc, ec⟩ : ∃ cc, cc = choosePivot (ltC cm) d1 x y := ⟨_, rfl⟩
      obtain ⟨d2, e3⟩ : ∃ d2, d2 = if cc.2 = .decreasing then reverseRange d1 x y else d1 := ⟨_, rfl⟩
      obtain ⟨pv, e4⟩ : ∃ pv, pv = if cc.2 = .decreasing then (y - 1) - (cc.1 - x) else cc.1 := ⟨_, rfl⟩
      obtain ⟨hint, e5⟩ : ∃ hint, hint = if cc.2 = .decreasing then Hint.increasing else cc.2 := ⟨_, rfl⟩
      have ht2 := pdq_step (lt := ltC cm) (wp := wp) h12 hl0 e1 e2 ec e3 e4 e5
      rw [ht] at ht2
      clear ht
      have hcb := choosePivot_holds (ltC cm) d1 x y (by omega)
      rw [← ec] at hcb
      have hpx : x ≤ pv := by rw [e4]; split <;> omega
      have hpy : pv < y := by rw [e4]; split <;> omega
      have hl1 : l1 < 100000 := by rw [e2]; split <;> omega
      simp (disch := omega)
      refine JoinN_in1 (fun w g' => w = .int .i64 l1 ∧ SB 24 b n c pq h0 g' d1) (fun kk hkk => ?_) (fun w g1 hw => ?_)
      · cases wb with
        | true =>
          simp (disch := omega)
          refine hkk _ _ ⟨?_, ?_⟩
          · rw [e2]; rfl
          · rw [e1]; exact s
        | false =>
          simp (disch := omega)
          refine brkR_c hone s hn (by omega) hy fun g1 s1 => ?_
          simp (disch := omega)
          refine hkk _ _ ⟨?_, ?_⟩
          · rw [e2]; simp; omega
          · rw [e1]; exact s1
      · obtain ⟨rfl, s1⟩ := hw
        refine pivR_c hf s1 hn (by omega) hy fun g2 s2 => ?_
        rw [← ec]
        simp (disch := omega)
        refine JoinN_in2 (fun w1 w2 g' => w1 = .int .i64 pv ∧ w2 = .int .i64 (hintV hint) ∧ SB 24 b n c pq h0 g' d2) (fun kk hkk => ?_) (fun w1 w2 g3 hw => ?_)
        · by_cases hdc : cc.2 = .decreasing
          · rw [if_pos hdc] at e3 e4 e5
            rw [hdc]
            simp (disch := omega) [hintV]
            refine revR_c hf hone s2 hn (by omega) hy fun g3 s3 => ?_
            simp (disch := omega)
            refine hkk _ _ _ ⟨?_, ?_, ?_⟩
            · rw [e4]; congr 1; omega
            · rw [e5]; rfl
            · rw [e3]; exact s3
          · rw [if_neg hdc] at e3 e4 e5
            have h2 : hintV cc.2 ≠ 2 := by
              intro e
              cases hcc : cc.2 <;> rw [hcc] at e hdc <;> first | exact hdc rfl | (simp [hintV] at e)
            simp (disch := omega) [h2]
            refine hkk _ _ _ ⟨?_, ?_, ?_⟩
            · rw [e4]
            · rw [e5]
            · rw [e3]; exact s2
        · obtain ⟨rfl, rfl, s3⟩ := hw
          refine JoinN_in0 (fun g' => ∃ d3, SB 24 b n c pq h0 g' d3 ∧ T = pdqR (ltC cm) x y l1 pv wb wp d3) (fun kk hkk => ?_) (fun g5 hw => ?_)
          · by_cases hb : (wb && wp && decide (hint = .increasing)) = true
            · rw [if_pos hb] at ht2
              simp at hb
              obtain ⟨⟨hb1, hb2⟩, hb3⟩ := hb
              rw [hb3, hb1, hb2]
              simp (disch := omega) [hintV]
              refine partR_c hf hone s3 hn (by omega) hy fun g4 s4 => ?_
              generalize partialInsertionSort (ltC cm) d2 x y = r at ht2 s4 ⊢
              obtain ⟨rd, rb⟩ := r
              cases rb with
              | true =>
                simp (disch := omega)
                exact H _ (ht2 ▸ s4)
              | false =>
                simp (disch := omega)
                refine hkk _ ⟨rd, s4, ?_⟩
                rw [ht2, hb1, hb2]
                rfl
            · rw [if_neg hb] at ht2
              have hsk : kk g3 := hkk _ ⟨d2, s3, by rw [ht2]; rfl⟩
              cases wb with
              | false => simp (disch := omega); exact hsk
              | true =>
                cases wp with
                | false => simp (disch := omega); exact hsk
                | true =>
                  have h1 : hintV hint ≠ 1 := by
                    intro e
                    cases hint <;> first | exact hb rfl | (simp [hintV] at e)
                  simp (disch := omega) [h1]
                  exact hsk
          · obtain ⟨d3, s5, ht3⟩ := hw
            clear ht2
            obtain ⟨mid0, ap0, d40, hpr⟩ : ∃ m q z, partition (ltC cm) d3 x y pv = (m, q, z) := ⟨_, _, _, rfl⟩
            have hR : ¬ (decide (x > 0) && !ltC cm d3[x - 1]! d3[pv]!) = true → T = (if x ≤ mid0 ∧ mid0 < y then (if mid0 - x < y - mid0 then pdq (ltC cm) (pdq (ltC cm) d40 x mid0 l1 true true) (mid0 + 1) y l1 (decide (mid0 - x ≥ (y - x) / 8)) ap0 else pdq (ltC cm) (pdq (ltC cm) d40 (mid0 + 1) y l1 true true) x mid0 l1 (decide (y - mid0 ≥ (y - x) / 8)) ap0) else d40) := fun hc => by
              rw [ht3]
              unfold pdqR
              rw [if_neg hc, hpr]
              rfl
            have hE : (decide (x > 0) && !ltC cm d3[x - 1]! d3[pv]!) = true → T = (match partitionEqual (ltC cm) d3 x y pv with | (mid, d4) => if _h : x < mid ∧ mid ≤ y then pdq (ltC cm) d4 mid y l1 wb wp else d4) := fun hc => by
              rw [ht3]
              unfold pdqR
              rw [if_pos hc]
            refine (fun key => ?main : (¬ (decide (x > 0) && !ltC cm d3[x - 1]! d3[pv]!) = true → ∀ g6, SB 24 b n c pq h0 g6 d3 → CallsH Try.prog 76 #[slV b n c, .int .i64 x, .int .i64 y, .int .i64 pv, f] g6 (?KK : Value → Heap → Prop) ⟨⟩) → _) (fun hc g6 s5' => ?rest)
            case' main =>
              by_cases hx0 : 0 < x
              · have s6 := s5
                have r1 := s5.get (i := x - 1) (by omega)
                have r2 := s5.get (i := pv) (by omega)
                have ex : ((x : Int) - 1).toNat = x - 1 := by omega
                unfold slV at key ⊢
                simp (disch := omega) [r1.1, r2.1, ex]
                refine hf _ _ _ _ s6.mod fun gX eX => ?_
                replace s6 := s6.ext eX
                by_cases hl : cm d3[x - 1]! d3[pv]! < 0
                · have hlt : ltC cm d3[x - 1]! d3[pv]! = true := decide_eq_true hl
                  simp (disch := omega) [hl]
                  exact key (by rw [hlt]; simp) _ s6
                · have hlt : ltC cm d3[x - 1]! d3[pv]! = false := decide_eq_false hl
                  simp (disch := omega) [hl]
                  refine peqR_c (x := x) hf hone s6 hn hpx hpy hy fun g7 mid s7 hm1 hm2 hm3 => ?_
                  have hE2 := hE (by rw [hlt]; simp; omega)
                  generalize partitionEqual (ltC cm) d3 x y pv = r at s7 hm1 hE2
                  obtain ⟨md, d4⟩ := r
                  dsimp only at s7 hm1 hE2
                  rw [hm1] at hm2 hm3 ⊢
                  rw [dif_pos ⟨hm2, hm3⟩] at hE2
                  exact hX (md, y, l1, wb, wp, d4) _ _ _ _ _ _ rfl rfl rfl rfl rfl ⟨s7, hm3, hy, by dsimp only; omega, hl1, hE2.symm⟩ (by dsimp only; omega)
              · simp (disch := omega)
                exact key (by simp; omega) _ s5
            case' rest =>
              have ht4 := hR hc
              clear hE hR
              refine prtR_c hf hone s5' hn hpx hpy hy fun g7 mid ap s7 hm1 hm2 hm3 hm4 => ?_
              rw [hpr] at s7 hm1 hm2
              dsimp only at s7 hm1 hm2
              rw [hm1] at hm3 hm4 ⊢
              rw [hm2]
              rw [if_pos ⟨hm3, hm4⟩] at ht4
              simp (disch := omega)
              refine Split.mk (fun hs => ?_) (fun hs => ?_)
              · have hlr : mid0 - x < y - mid0 := by omega
                rw [if_pos hlr] at ht4
                by_cases hq : mid0 - x ≥ (y - x) / 8
                · rw [decide_eq_true hq] at ht4
                  simp (disch := omega)
                  refine ih (mid0 - x) (by omega) (Nat.le_refl _) s7 hm3 (by omega) hl1 fun g8 s8 => ?_
                  simp (disch := omega)
                  exact hX (mid0 + 1, y, l1, true, ap0, _) _ _ _ _ _ _ (by simp) rfl rfl rfl rfl ⟨s8, by dsimp only; omega, hy, by dsimp only; omega, hl1, ht4.symm⟩ (by dsimp only; omega)
                · rw [decide_eq_false hq] at ht4
                  simp (disch := omega)
                  refine ih (mid0 - x) (by omega) (Nat.le_refl _) s7 hm3 (by omega) hl1 fun g8 s8 => ?_
                  simp (disch := omega)
                  exact hX (mid0 + 1, y, l1, false, ap0, _) _ _ _ _ _ _ (by simp) rfl rfl rfl rfl ⟨s8, by dsimp only; omega, hy, by dsimp only; omega, hl1, ht4.symm⟩ (by dsimp only; omega)
              · have hlr : ¬ mid0 - x < y - mid0 := by omega
                rw [if_neg hlr] at ht4
                by_cases hq : y - mid0 ≥ (y - x) / 8
                · rw [decide_eq_true hq] at ht4
                  simp (disch := omega)
                  refine ih (y - (mid0 + 1)) (by omega) (x := mid0 + 1) (Nat.le_refl _) s7 (by omega) hy hl1 fun g8 s8 => ?_
                  exact hX (x, mid0, l1, true, ap0, _) _ _ _ _ _ _ rfl rfl rfl rfl rfl ⟨s8, hm3, by dsimp only; omega, by dsimp only; omega, hl1, ht4.symm⟩ (by dsimp only; omega)
                · rw [decide_eq_false hq] at ht4
                  simp (disch := omega)
                  refine ih (y - (mid0 + 1)) (by omega) (x := mid0 + 1) (Nat.le_refl _) s7 (by omega) hy hl1 fun g8 s8 => ?_
                  exact hX (x, mid0, l1, false, ap0, _) _ _ _ _ _ _ rfl rfl rfl rfl rfl ⟨s8, hm3, by dsimp only; omega, by dsimp only; omega, hl1, ht4.symm⟩ (by dsimp only; omega)
end
end Go.Proofs.Ytgcllbelgakjgaa
set_option linter.unusedSimpArgs false
set_option linter.unusedVariables false
set_option linter.unusedSectionVars false
namespace Go.Proofs.Ytgcllbelgakjgaa
open Go.Vc Go.Sort

section
variable {K : Value → Heap → Prop} {h0 h : Heap} {b n c : Nat} {α : Type} [Inhabited α] {pq : α → Int × Int} {d : Array α} {f : Value} {cm : α → α → Int}
theorem SB.init {e : Nat} {L : List α} (o : OwnT e 2 h (.slice (some ⟨b, 0, none⟩) n c) (L.flatMap (cell2 pq))) : SB e b n c pq h h L.toArray := ⟨by simpa using o, .refl _ _⟩
theorem sortR_c {L : List α} {v : Value} (hv : OwnT 24 2 h v (L.flatMap (cell2 pq))) (hl : L.length < 100000) (hf : ∀ b, blkV v = some b → CmpOk2 Try.prog f b h (val2 pq) cm) (hone : True) (hw : SWO (ltC cm))
    (H : ∀ h' L', L'.Perm L → Ascend (ltC cm) L' → OwnT 24 2 h' v (L'.flatMap (cell2 pq)) → Mod (fun b => blkV v = some b) h h' → K (.tuple #[]) h') :
    CallsH Try.prog 54 #[v, f] h K ⟨⟩ := by
  refine n54_calls ?_
  unfold n54
  have hv0 := hv
  rcases hv with ⟨rfl, hL⟩ | ⟨b, n, c, rest, rfl, h1, h2, h3, h4⟩
  · have hL' : L = [] := by cases L with | nil => rfl | cons x l => simp [cell2] at hL
    have hk := H h [] (by rw [hL']) .nil (.inl ⟨rfl, rfl⟩) (.refl _ _)
    simp (disch := omega)
    refine len_c (n := 0) (by omega) ?_
    refine n64_calls ?_
    unfold n64
    refine loopX5 (fun _ : Unit => .int .i64 0) (fun _ => .int .i64 0) (fun _ => .int .i64 0) (fun _ => .bool true) (fun _ => .bool true) (fun _ g => g = h) (fun _ => 0) () ⟨rfl, rfl, rfl, rfl, rfl⟩ rfl ?_
    rintro _ g rfl X hX
    refine JoinN.mk ?_
    simp (disch := omega)
    refine n69_calls ?_
    unfold n69
    simp (disch := omega)
    refine loopX1 (fun _ : Unit => .int .i64 1) (fun _ g' => g' = g) (fun _ => 0) () rfl rfl ?_
    rintro _ g rfl X2 hX2
    simp (disch := omega)
    exact hk
  · have hn : L.length = n := by have := cell2_len (pq := pq) L; omega
    subst hn
    have s := SB.init (L := L) hv0
    have hbl := bitsLen_le (show L.length < 16777216 by omega)
    simp (disch := omega)
    refine len_c (n := L.length) (by omega) ?_
    refine pdqR_c (hf b rfl) hone hl L.length (x := 0) (y := L.length) (lim := bitsLen L.length) (by omega) s (by omega) (by omega) (by omega) fun h' s' => ?_
    have hs := sorts hw L.toArray (bitsLen L.length)
    rw [show L.toArray.size = L.length by simp] at hs
    exact H h' _ hs.1 hs.2 s'.own (s'.mod.mono (fun b' _ e => by rw [e]; rfl))
end
end Go.Proofs.Ytgcllbelgakjgaa
