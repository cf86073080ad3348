/- Sorting: the pivot. -/
import Derived.Test.YtlligpgjkmfhpaaSrt6
set_option linter.unusedSimpArgs false
set_option linter.unusedVariables false
namespace Go.Proofs.Ytlligpgjkmfhpaa
open Go.Vc Go.Sort

section
variable {α : Type} [Inhabited α] {K : Value → Heap → Prop} {h0 h : Heap} {b n c : Nat} {val : α → Value} {d : Array α} {f : Value} {cm : α → α → Int}

/-- A number in a cell of its own. -/
def Sw (h : Heap) (q : Nat) (w : Nat) : Prop := h[q]? = some (.cells #[.int .i64 w] 3)
theorem ord2_bd {i j w m : Nat} (hi : i < m) (hj : j < m) : (order2 (ltC cm) d i j w).1 < m ∧ (order2 (ltC cm) d i j w).2.1 < m ∧ (order2 (ltC cm) d i j w).2.2 ≤ w + 1 := by
  unfold order2
  split
  · exact ⟨hj, hi, Nat.le_refl _⟩
  · exact ⟨hi, hj, Nat.le_succ _⟩
theorem med_bd {i j k w m : Nat} (hi : i < m) (hj : j < m) (hk : k < m) : (median (ltC cm) d i j k w).1 < m ∧ (median (ltC cm) d i j k w).2 ≤ w + 3 := by
  unfold median
  have b1 := ord2_bd (cm := cm) (d := d) (w := w) hi hj
  have b2 := ord2_bd (cm := cm) (d := d) (w := (order2 (ltC cm) d i j w).2.2) b1.2.1 hk
  have b3 := ord2_bd (cm := cm) (d := d) (w := (order2 (ltC cm) d (order2 (ltC cm) d i j w).2.1 k (order2 (ltC cm) d i j w).2.2).2.2) b1.1 b2.1
  exact ⟨b3.2.1, by dsimp only; omega⟩
def hintV : Hint → Int
  | .unknown => 0
  | .increasing => 1
  | .decreasing => 2

set_option maxHeartbeats 1000000 in
theorem ord2C_c {i j q w : Nat} (hf : CmpOk Try.prog f b h0 val cm) (s : SA 59 b n c val h0 h d) (hq : q ≠ b) (hz : h0.size ≤ q) (hw : Sw h q w) (hwb : w < 1000) (hn : n < 100000) (hi : i < n) (hj : j < n)
    (H : ∀ h', SA 59 b n c val h0 h' d → Sw h' q (order2 (ltC cm) d i j w).2.2 → K (.tuple #[.int .i64 (order2 (ltC cm) d i j w).1, .int .i64 (order2 (ltC cm) d i j w).2.1]) h') :
    CallsH Try.prog 87 #[slV b n c, .int .i64 i, .int .i64 j, .pointer (some ⟨q, 0, none⟩), f] h K ⟨⟩ := by
  refine n87_calls ?_
  unfold n87 slV
  have ri := s.get hi
  have rj := s.get hj
  simp (disch := omega) [ri.1, rj.1]
  refine hf _ _ _ _ s.mod ?_
  unfold order2 at H
  by_cases hl : cm d[j]! d[i]! < 0
  · have hlt : ltC cm d[j]! d[i]! = true := decide_eq_true hl
    rw [if_pos hlt] at H
    have hc : hcell h ⟨q, 0, none⟩ = some (.int .i64 w) := by unfold hcell; unfold Sw at hw; simp [hw]
    have hfz : hfrozen h ⟨q, 0, none⟩ = false := by unfold hfrozen; unfold Sw at hw; simp [hw]
    simp (disch := omega) [hl, hc, hfz]
    refine H _ (s.side hq hz) ?_
    unfold Sw at hw ⊢
    rw [hset_of_block hw, get_put (get_some_lt hw)]
    simp
  · have hlt : ¬ ltC cm d[j]! d[i]! = true := by rw [show ltC cm d[j]! d[i]! = false from decide_eq_false hl]; simp
    rw [if_neg hlt] at H
    simp (disch := omega) [hl]
    exact H _ s hw
theorem medC_c {i j k q w : Nat} (hf : CmpOk Try.prog f b h0 val cm) (s : SA 59 b n c val h0 h d) (hq : q ≠ b) (hz : h0.size ≤ q) (hw : Sw h q w) (hwb : w < 900) (hn : n < 100000) (hi : i < n) (hj : j < n) (hk : k < n)
    (H : ∀ h', SA 59 b n c val h0 h' d → Sw h' q (median (ltC cm) d i j k w).2 → K (.int .i64 (median (ltC cm) d i j k w).1) h') :
    CallsH Try.prog 86 #[slV b n c, .int .i64 i, .int .i64 j, .int .i64 k, .pointer (some ⟨q, 0, none⟩), f] h K ⟨⟩ := by
  refine n86_calls ?_
  unfold n86
  have b1 := ord2_bd (cm := cm) (d := d) (w := w) hi hj
  have b2 := ord2_bd (cm := cm) (d := d) (w := (order2 (ltC cm) d i j w).2.2) b1.2.1 hk
  refine ord2C_c hf s hq hz hw (by omega) hn hi hj fun g1 s1 w1 => ?_
  simp (disch := omega)
  refine ord2C_c hf s1 hq hz w1 (by omega) hn b1.2.1 hk fun g2 s2 w2 => ?_
  simp (disch := omega)
  refine ord2C_c hf s2 hq hz w2 (by omega) hn b1.1 b2.1 fun g3 s3 w3 => ?_
  simp (disch := omega)
  exact H _ s3 w3
theorem mdAC_c {i q w : Nat} (hf : CmpOk Try.prog f b h0 val cm) (s : SA 59 b n c val h0 h d) (hq : q ≠ b) (hz : h0.size ≤ q) (hw : Sw h q w) (hwb : w < 900) (hn : n < 100000) (hi0 : 0 < i) (hi : i + 1 < n)
    (H : ∀ h', SA 59 b n c val h0 h' d → Sw h' q (medianAdjacent (ltC cm) d i w).2 → K (.int .i64 (medianAdjacent (ltC cm) d i w).1) h') :
    CallsH Try.prog 85 #[slV b n c, .int .i64 i, .pointer (some ⟨q, 0, none⟩), f] h K ⟨⟩ := by
  refine n85_calls ?_
  unfold n85
  obtain ⟨m, rfl⟩ : ∃ m, i = m + 1 := ⟨i - 1, by omega⟩
  simp (disch := omega)
  refine medC_c (i := m) (j := m + 1) (k := m + 1 + 1) hf s hq hz hw hwb hn (by omega) (by omega) (by omega) fun g s1 w1 => ?_
  exact H g s1 w1
set_option maxHeartbeats 1000000 in
theorem pivC_c {x y : Nat} (hf : CmpOk Try.prog f b h0 val cm) (s : SA 59 b n c val h0 h d) (hn : n < 100000) (hxy : x < y) (hy : y ≤ n)
    (H : ∀ h', SA 59 b n c val h0 h' d → K (.tuple #[.int .i64 (choosePivot (ltC cm) d x y).1, .int .i64 (hintV (choosePivot (ltC cm) d x y).2)]) h') :
    CallsH Try.prog 78 #[slV b n c, .int .i64 x, .int .i64 y, f] h K ⟨⟩ := by
  refine n78_calls ?_
  unfold n78
  obtain ⟨l, rfl⟩ : ∃ l, y = x + l := ⟨y - x, by omega⟩
  have em : ((x + l : Nat) : Int) - (x : Int) = (l : Int) := by omega
  have hb := s.lt
  have hzz : h0.size ≤ h.size := s.mod.size
  have wq : Sw (h.push (.cells #[.int .i64 0] 3)) h.size 0 := get_pushed rfl
  have sq := s.pushed (o := .cells #[.int .i64 0] 3)
  simp (disch := omega) only [em, Hp_sub_i64, ValI_iff]
  simp (disch := omega)
  have e1 : (x : Int) + (l : Int) / 4 = ((x + l / 4 * 1 : Nat) : Int) := by omega
  have e2 : (x : Int) + (l : Int) / 4 * 2 = ((x + l / 4 * 2 : Nat) : Int) := by omega
  have e3 : (x : Int) + (l : Int) / 4 * 3 = ((x + l / 4 * 3 : Nat) : Int) := by omega
  rw [e1, e2, e3]
  generalize hg : h.push (.cells #[.int .i64 0] 3) = g0 at wq sq ⊢
  have hcp : choosePivot (ltC cm) d x (x + l) = (fun r : Nat × Nat => (r.1, if r.2 = 0 then Hint.increasing else if r.2 = 12 then Hint.decreasing else Hint.unknown)) (if l ≥ 8 then (if l ≥ 50 then
      median (ltC cm) d (medianAdjacent (ltC cm) d (x + l / 4 * 1) 0).1 (medianAdjacent (ltC cm) d (x + l / 4 * 2) (medianAdjacent (ltC cm) d (x + l / 4 * 1) 0).2).1 (medianAdjacent (ltC cm) d (x + l / 4 * 3) (medianAdjacent (ltC cm) d (x + l / 4 * 2) (medianAdjacent (ltC cm) d (x + l / 4 * 1) 0).2).2).1 (medianAdjacent (ltC cm) d (x + l / 4 * 3) (medianAdjacent (ltC cm) d (x + l / 4 * 2) (medianAdjacent (ltC cm) d (x + l / 4 * 1) 0).2).2).2
      else median (ltC cm) d (x + l / 4 * 1) (x + l / 4 * 2) (x + l / 4 * 3) 0) else (x + l / 4 * 2, 0)) := by
    unfold choosePivot
    rw [Nat.add_sub_cancel_left]
  generalize choosePivot (ltC cm) d x (x + l) = R at hcp H
  have hi1 : 8 ≤ l → 0 < x + l / 4 * 1 ∧ x + l / 4 * 1 + 1 < n := fun _ => by omega
  have hi2 : 8 ≤ l → 0 < x + l / 4 * 2 ∧ x + l / 4 * 2 + 1 < n := fun _ => by omega
  have hi3 : 8 ≤ l → 0 < x + l / 4 * 3 ∧ x + l / 4 * 3 + 1 < n := fun _ => by omega
  have hi2' : x + l / 4 * 2 < n := by omega
  generalize x + l / 4 * 1 = i1 at hcp hi1 ⊢
  generalize x + l / 4 * 2 = i2 at hcp hi2 hi2' ⊢
  generalize x + l / 4 * 3 = i3 at hcp hi3 ⊢
  have hqb : h.size ≠ b := by omega
  refine JoinN_in1 (fun w g => ∃ pv sw : Nat, w = .int .i64 pv ∧ SA 59 b n c val h0 g d ∧ Sw g h.size sw ∧ sw < 1000 ∧ (fun r : Nat × Nat => (r.1, if r.2 = 0 then Hint.increasing else if r.2 = 12 then Hint.decreasing else Hint.unknown)) (pv, sw) = R) (fun kk hkk => ?_) (fun w g hw => ?_)
  · by_cases h8 : 8 ≤ l
    · rw [if_pos h8] at hcp
      simp (disch := omega)
      have q1 := hi1 h8
      have q2 := hi2 h8
      have q3 := hi3 h8
      refine JoinN_in3 (fun w1 w2 w3 g => ∃ a1 a2 a3 sw : Nat, w1 = .int .i64 a1 ∧ w2 = .int .i64 a2 ∧ w3 = .int .i64 a3 ∧ a1 < n ∧ a2 < n ∧ a3 < n ∧ SA 59 b n c val h0 g d ∧ Sw g h.size sw ∧ sw < 500 ∧ (fun r : Nat × Nat => (r.1, if r.2 = 0 then Hint.increasing else if r.2 = 12 then Hint.decreasing else Hint.unknown)) (median (ltC cm) d a1 a2 a3 sw) = R) (fun k3 hk3 => ?_) (fun w1 w2 w3 g hw => ?_)
      · by_cases h50 : 50 ≤ l
        · rw [if_pos h50] at hcp
          simp (disch := omega)
          have b1 := med_bd (cm := cm) (d := d) (w := 0) (m := n) (show i1 - 1 < n by omega) (show i1 < n by omega) (show i1 + 1 < n by omega)
          have b2 := med_bd (cm := cm) (d := d) (w := (medianAdjacent (ltC cm) d i1 0).2) (m := n) (show i2 - 1 < n by omega) (show i2 < n by omega) (show i2 + 1 < n by omega)
          have b3 := med_bd (cm := cm) (d := d) (w := (medianAdjacent (ltC cm) d i2 (medianAdjacent (ltC cm) d i1 0).2).2) (m := n) (show i3 - 1 < n by omega) (show i3 < n by omega) (show i3 + 1 < n by omega)
          have b1' : (medianAdjacent (ltC cm) d i1 0).1 < n ∧ (medianAdjacent (ltC cm) d i1 0).2 ≤ 0 + 3 := b1
          have b2' : (medianAdjacent (ltC cm) d i2 (medianAdjacent (ltC cm) d i1 0).2).1 < n ∧ (medianAdjacent (ltC cm) d i2 (medianAdjacent (ltC cm) d i1 0).2).2 ≤ (medianAdjacent (ltC cm) d i1 0).2 + 3 := b2
          have b3' : (medianAdjacent (ltC cm) d i3 (medianAdjacent (ltC cm) d i2 (medianAdjacent (ltC cm) d i1 0).2).2).1 < n ∧ (medianAdjacent (ltC cm) d i3 (medianAdjacent (ltC cm) d i2 (medianAdjacent (ltC cm) d i1 0).2).2).2 ≤ (medianAdjacent (ltC cm) d i2 (medianAdjacent (ltC cm) d i1 0).2).2 + 3 := b3
          refine mdAC_c hf sq hqb hzz wq (by omega) hn q1.1 q1.2 fun g1 s1 w1 => ?_
          refine mdAC_c hf s1 hqb hzz w1 (by omega) hn q2.1 q2.2 fun g2 s2 w2 => ?_
          refine mdAC_c hf s2 hqb hzz w2 (by omega) hn q3.1 q3.2 fun g3 s3 w3 => ?_
          exact hk3 _ _ _ _ ⟨_, _, _, _, rfl, rfl, rfl, b1'.1, b2'.1, b3'.1, s3, w3, by omega, hcp.symm⟩
        · rw [if_neg h50] at hcp
          simp (disch := omega)
          exact hk3 _ _ _ _ ⟨_, _, _, _, rfl, rfl, rfl, by omega, by omega, by omega, sq, wq, by omega, hcp.symm⟩
      · obtain ⟨a1, a2, a3, sw, rfl, rfl, rfl, h1, h2, h3, s1, w1, hsw, he⟩ := hw
        have bb := med_bd (cm := cm) (d := d) (w := sw) h1 h2 h3
        refine medC_c hf s1 hqb hzz w1 (by omega) hn h1 h2 h3 fun g2 s2 w2 => ?_
        exact hkk _ _ ⟨_, _, rfl, s2, w2, by omega, he⟩
    · rw [if_neg h8] at hcp
      simp (disch := omega)
      exact hkk _ _ ⟨i2, 0, rfl, sq, wq, by omega, hcp.symm⟩
  · obtain ⟨pv, sw, rfl, s1, w1, hsw, he⟩ := hw
    rw [← he] at H
    have hc : hcell g ⟨h.size, 0, none⟩ = some (.int .i64 sw) := by unfold hcell; unfold Sw at w1; simp [w1]
    simp (disch := omega) [hc]
    dsimp only at H
    by_cases z0 : sw = 0
    · rw [if_pos z0] at H
      simp (disch := omega) [z0]
      exact H _ s1
    · rw [if_neg z0] at H
      simp (disch := omega)
      by_cases z1 : sw = 12
      · rw [if_pos z1] at H
        simp (disch := omega) [z1]
        exact H _ s1
      · rw [if_neg z1] at H
        simp (disch := omega)
        exact H _ s1

set_option maxHeartbeats 1000000 in
theorem ord2O_c {i j q w : Nat} (hf : LessOk Try.prog 63 val cm) (s : SA 3 b n c val h0 h d) (hq : q ≠ b) (hz : h0.size ≤ q) (hw : Sw h q w) (hwb : w < 1000) (hn : n < 100000) (hi : i < n) (hj : j < n)
    (H : ∀ h', SA 3 b n c val h0 h' d → Sw h' q (order2 (ltC cm) d i j w).2.2 → K (.tuple #[.int .i64 (order2 (ltC cm) d i j w).1, .int .i64 (order2 (ltC cm) d i j w).2.1]) h') :
    CallsH Try.prog 83 #[slV b n c, .int .i64 i, .int .i64 j, .pointer (some ⟨q, 0, none⟩)] h K ⟨⟩ := by
  refine n83_calls ?_
  unfold n83 slV
  have ri := s.get hi
  have rj := s.get hj
  simp (disch := omega) [ri.1, rj.1]
  refine hf _ _ _ _ ?_
  unfold order2 at H
  by_cases hl : cm d[j]! d[i]! < 0
  · have hlt : ltC cm d[j]! d[i]! = true := decide_eq_true hl
    rw [if_pos hlt] at H
    have hc : hcell h ⟨q, 0, none⟩ = some (.int .i64 w) := by unfold hcell; unfold Sw at hw; simp [hw]
    have hfz : hfrozen h ⟨q, 0, none⟩ = false := by unfold hfrozen; unfold Sw at hw; simp [hw]
    simp (disch := omega) [hl, hc, hfz]
    refine H _ (s.side hq hz) ?_
    unfold Sw at hw ⊢
    rw [hset_of_block hw, get_put (get_some_lt hw)]
    simp
  · have hlt : ¬ ltC cm d[j]! d[i]! = true := by rw [show ltC cm d[j]! d[i]! = false from decide_eq_false hl]; simp
    rw [if_neg hlt] at H
    simp (disch := omega) [hl]
    exact H _ s hw
theorem medO_c {i j k q w : Nat} (hf : LessOk Try.prog 63 val cm) (s : SA 3 b n c val h0 h d) (hq : q ≠ b) (hz : h0.size ≤ q) (hw : Sw h q w) (hwb : w < 900) (hn : n < 100000) (hi : i < n) (hj : j < n) (hk : k < n)
    (H : ∀ h', SA 3 b n c val h0 h' d → Sw h' q (median (ltC cm) d i j k w).2 → K (.int .i64 (median (ltC cm) d i j k w).1) h') :
    CallsH Try.prog 74 #[slV b n c, .int .i64 i, .int .i64 j, .int .i64 k, .pointer (some ⟨q, 0, none⟩)] h K ⟨⟩ := by
  refine n74_calls ?_
  unfold n74
  have b1 := ord2_bd (cm := cm) (d := d) (w := w) hi hj
  have b2 := ord2_bd (cm := cm) (d := d) (w := (order2 (ltC cm) d i j w).2.2) b1.2.1 hk
  refine ord2O_c hf s hq hz hw (by omega) hn hi hj fun g1 s1 w1 => ?_
  simp (disch := omega)
  refine ord2O_c hf s1 hq hz w1 (by omega) hn b1.2.1 hk fun g2 s2 w2 => ?_
  simp (disch := omega)
  refine ord2O_c hf s2 hq hz w2 (by omega) hn b1.1 b2.1 fun g3 s3 w3 => ?_
  simp (disch := omega)
  exact H _ s3 w3
theorem mdAO_c {i q w : Nat} (hf : LessOk Try.prog 63 val cm) (s : SA 3 b n c val h0 h d) (hq : q ≠ b) (hz : h0.size ≤ q) (hw : Sw h q w) (hwb : w < 900) (hn : n < 100000) (hi0 : 0 < i) (hi : i + 1 < n)
    (H : ∀ h', SA 3 b n c val h0 h' d → Sw h' q (medianAdjacent (ltC cm) d i w).2 → K (.int .i64 (medianAdjacent (ltC cm) d i w).1) h') :
    CallsH Try.prog 73 #[slV b n c, .int .i64 i, .pointer (some ⟨q, 0, none⟩)] h K ⟨⟩ := by
  refine n73_calls ?_
  unfold n73
  obtain ⟨m, rfl⟩ : ∃ m, i = m + 1 := ⟨i - 1, by omega⟩
  simp (disch := omega)
  refine medO_c (i := m) (j := m + 1) (k := m + 1 + 1) hf s hq hz hw hwb hn (by omega) (by omega) (by omega) fun g s1 w1 => ?_
  exact H g s1 w1
set_option maxHeartbeats 1000000 in
theorem pivO_c {x y : Nat} (hf : LessOk Try.prog 63 val cm) (s : SA 3 b n c val h0 h d) (hn : n < 100000) (hxy : x < y) (hy : y ≤ n)
    (H : ∀ h', SA 3 b n c val h0 h' d → K (.tuple #[.int .i64 (choosePivot (ltC cm) d x y).1, .int .i64 (hintV (choosePivot (ltC cm) d x y).2)]) h') :
    CallsH Try.prog 60 #[slV b n c, .int .i64 x, .int .i64 y] h K ⟨⟩ := by
  refine n60_calls ?_
  unfold n60
  obtain ⟨l, rfl⟩ : ∃ l, y = x + l := ⟨y - x, by omega⟩
  have em : ((x + l : Nat) : Int) - (x : Int) = (l : Int) := by omega
  have hb := s.lt
  have hzz : h0.size ≤ h.size := s.mod.size
  have wq : Sw (h.push (.cells #[.int .i64 0] 3)) h.size 0 := get_pushed rfl
  have sq := s.pushed (o := .cells #[.int .i64 0] 3)
  simp (disch := omega) only [em, Hp_sub_i64, ValI_iff]
  simp (disch := omega)
  have e1 : (x : Int) + (l : Int) / 4 = ((x + l / 4 * 1 : Nat) : Int) := by omega
  have e2 : (x : Int) + (l : Int) / 4 * 2 = ((x + l / 4 * 2 : Nat) : Int) := by omega
  have e3 : (x : Int) + (l : Int) / 4 * 3 = ((x + l / 4 * 3 : Nat) : Int) := by omega
  rw [e1, e2, e3]
  generalize hg : h.push (.cells #[.int .i64 0] 3) = g0 at wq sq ⊢
  have hcp : choosePivot (ltC cm) d x (x + l) = (fun r : Nat × Nat => (r.1, if r.2 = 0 then Hint.increasing else if r.2 = 12 then Hint.decreasing else Hint.unknown)) (if l ≥ 8 then (if l ≥ 50 then
      median (ltC cm) d (medianAdjacent (ltC cm) d (x + l / 4 * 1) 0).1 (medianAdjacent (ltC cm) d (x + l / 4 * 2) (medianAdjacent (ltC cm) d (x + l / 4 * 1) 0).2).1 (medianAdjacent (ltC cm) d (x + l / 4 * 3) (medianAdjacent (ltC cm) d (x + l / 4 * 2) (medianAdjacent (ltC cm) d (x + l / 4 * 1) 0).2).2).1 (medianAdjacent (ltC cm) d (x + l / 4 * 3) (medianAdjacent (ltC cm) d (x + l / 4 * 2) (medianAdjacent (ltC cm) d (x + l / 4 * 1) 0).2).2).2
      else median (ltC cm) d (x + l / 4 * 1) (x + l / 4 * 2) (x + l / 4 * 3) 0) else (x + l / 4 * 2, 0)) := by
    unfold choosePivot
    rw [Nat.add_sub_cancel_left]
  generalize choosePivot (ltC cm) d x (x + l) = R at hcp H
  have hi1 : 8 ≤ l → 0 < x + l / 4 * 1 ∧ x + l / 4 * 1 + 1 < n := fun _ => by omega
  have hi2 : 8 ≤ l → 0 < x + l / 4 * 2 ∧ x + l / 4 * 2 + 1 < n := fun _ => by omega
  have hi3 : 8 ≤ l → 0 < x + l / 4 * 3 ∧ x + l / 4 * 3 + 1 < n := fun _ => by omega
  have hi2' : x + l / 4 * 2 < n := by omega
  generalize x + l / 4 * 1 = i1 at hcp hi1 ⊢
  generalize x + l / 4 * 2 = i2 at hcp hi2 hi2' ⊢
  generalize x + l / 4 * 3 = i3 at hcp hi3 ⊢
  have hqb : h.size ≠ b := by omega
  refine JoinN_in1 (fun w g => ∃ pv sw : Nat, w = .int .i64 pv ∧ SA 3 b n c val h0 g d ∧ Sw g h.size sw ∧ sw < 1000 ∧ (fun r : Nat × Nat => (r.1, if r.2 = 0 then Hint.increasing else if r.2 = 12 then Hint.decreasing else Hint.unknown)) (pv, sw) = R) (fun kk hkk => ?_) (fun w g hw => ?_)
  · by_cases h8 : 8 ≤ l
    · rw [if_pos h8] at hcp
      simp (disch := omega)
      have q1 := hi1 h8
      have q2 := hi2 h8
      have q3 := hi3 h8
      refine JoinN_in3 (fun w1 w2 w3 g => ∃ a1 a2 a3 sw : Nat, w1 = .int .i64 a1 ∧ w2 = .int .i64 a2 ∧ w3 = .int .i64 a3 ∧ a1 < n ∧ a2 < n ∧ a3 < n ∧ SA 3 b n c val h0 g d ∧ Sw g h.size sw ∧ sw < 500 ∧ (fun r : Nat × Nat => (r.1, if r.2 = 0 then Hint.increasing else if r.2 = 12 then Hint.decreasing else Hint.unknown)) (median (ltC cm) d a1 a2 a3 sw) = R) (fun k3 hk3 => ?_) (fun w1 w2 w3 g hw => ?_)
      · by_cases h50 : 50 ≤ l
        · rw [if_pos h50] at hcp
          simp (disch := omega)
          have b1 := med_bd (cm := cm) (d := d) (w := 0) (m := n) (show i1 - 1 < n by omega) (show i1 < n by omega) (show i1 + 1 < n by omega)
          have b2 := med_bd (cm := cm) (d := d) (w := (medianAdjacent (ltC cm) d i1 0).2) (m := n) (show i2 - 1 < n by omega) (show i2 < n by omega) (show i2 + 1 < n by omega)
          have b3 := med_bd (cm := cm) (d := d) (w := (medianAdjacent (ltC cm) d i2 (medianAdjacent (ltC cm) d i1 0).2).2) (m := n) (show i3 - 1 < n by omega) (show i3 < n by omega) (show i3 + 1 < n by omega)
          have b1' : (medianAdjacent (ltC cm) d i1 0).1 < n ∧ (medianAdjacent (ltC cm) d i1 0).2 ≤ 0 + 3 := b1
          have b2' : (medianAdjacent (ltC cm) d i2 (medianAdjacent (ltC cm) d i1 0).2).1 < n ∧ (medianAdjacent (ltC cm) d i2 (medianAdjacent (ltC cm) d i1 0).2).2 ≤ (medianAdjacent (ltC cm) d i1 0).2 + 3 := b2
          have b3' : (medianAdjacent (ltC cm) d i3 (medianAdjacent (ltC cm) d i2 (medianAdjacent (ltC cm) d i1 0).2).2).1 < n ∧ (medianAdjacent (ltC cm) d i3 (medianAdjacent (ltC cm) d i2 (medianAdjacent (ltC cm) d i1 0).2).2).2 ≤ (medianAdjacent (ltC cm) d i2 (medianAdjacent (ltC cm) d i1 0).2).2 + 3 := b3
          refine mdAO_c hf sq hqb hzz wq (by omega) hn q1.1 q1.2 fun g1 s1 w1 => ?_
          refine mdAO_c hf s1 hqb hzz w1 (by omega) hn q2.1 q2.2 fun g2 s2 w2 => ?_
          refine mdAO_c hf s2 hqb hzz w2 (by omega) hn q3.1 q3.2 fun g3 s3 w3 => ?_
          exact hk3 _ _ _ _ ⟨_, _, _, _, rfl, rfl, rfl, b1'.1, b2'.1, b3'.1, s3, w3, by omega, hcp.symm⟩
        · rw [if_neg h50] at hcp
          simp (disch := omega)
          exact hk3 _ _ _ _ ⟨_, _, _, _, rfl, rfl, rfl, by omega, by omega, by omega, sq, wq, by omega, hcp.symm⟩
      · obtain ⟨a1, a2, a3, sw, rfl, rfl, rfl, h1, h2, h3, s1, w1, hsw, he⟩ := hw
        have bb := med_bd (cm := cm) (d := d) (w := sw) h1 h2 h3
        refine medO_c hf s1 hqb hzz w1 (by omega) hn h1 h2 h3 fun g2 s2 w2 => ?_
        exact hkk _ _ ⟨_, _, rfl, s2, w2, by omega, he⟩
    · rw [if_neg h8] at hcp
      simp (disch := omega)
      exact hkk _ _ ⟨i2, 0, rfl, sq, wq, by omega, hcp.symm⟩
  · obtain ⟨pv, sw, rfl, s1, w1, hsw, he⟩ := hw
    rw [← he] at H
    have hc : hcell g ⟨h.size, 0, none⟩ = some (.int .i64 sw) := by unfold hcell; unfold Sw at w1; simp [w1]
    simp (disch := omega) [hc]
    dsimp only at H
    by_cases z0 : sw = 0
    · rw [if_pos z0] at H
      simp (disch := omega) [z0]
      exact H _ s1
    · rw [if_neg z0] at H
      simp (disch := omega)
      by_cases z1 : sw = 12
      · rw [if_pos z1] at H
        simp (disch := omega) [z1]
        exact H _ s1
      · rw [if_neg z1] at H
        simp (disch := omega)
        exact H _ s1
end
end Go.Proofs.Ytlligpgjkmfhpaa
