/- Counts: widths, reading, writing. -/
import Derived.Test.YtmppolccfjfoaaaNiceC
import Derived.Test.YtmppolccfjfoaaaFacts
import Derived.Test.YtmppolccfjfoaaaCnt
set_option linter.unusedSimpArgs false
set_option linter.unusedVariables false
namespace Go.Proofs.Ytmppolccfjfoaaa
open Go.Vc
variable {K : Value → Heap → Prop} {h : Heap}

/-- The width of an order; 0: no order. -/
def wd (o : Int) : Nat := if 0 ≤ o ∧ o ≤ 6 then 2 ^ o.toNat else 0
theorem wd_cases (o : Int) : (wd o = 0 ∧ ¬ (0 ≤ o ∧ o ≤ 6)) ∨ ((0 ≤ o ∧ o ≤ 6) ∧ (wd o = 1 ∨ wd o = 2 ∨ wd o = 4 ∨ wd o = 8 ∨ wd o = 16 ∨ wd o = 32 ∨ wd o = 64)) := by
  by_cases ho : 0 ≤ o ∧ o ≤ 6
  · right
    refine ⟨ho, ?_⟩
    obtain ⟨h0, h1⟩ := ho
    have : o = 0 ∨ o = 1 ∨ o = 2 ∨ o = 3 ∨ o = 4 ∨ o = 5 ∨ o = 6 := by omega
    rcases this with rfl | rfl | rfl | rfl | rfl | rfl | rfl <;> decide
  · left
    exact ⟨by unfold wd; rw [if_neg ho], ho⟩
theorem wd_le (o : Int) : wd o ≤ 64 := by rcases wd_cases o with h | h <;> omega

/-- How many counts there are. -/
def many (len : Nat) (o : Int) : Nat := 8 * len / wd o

theorem Width_c {o : Int} (H : ∀ h', Ext h h' → K (.int .i64 (wd o)) h') : CallsH Try.prog 74 #[.int .i64 o] h K ⟨⟩ := by
  refine n74_calls ?_
  unfold n74
  by_cases ho : 0 ≤ o ∧ o ≤ 6
  · obtain ⟨h0, h1⟩ := ho
    have : o = 0 ∨ o = 1 ∨ o = 2 ∨ o = 3 ∨ o = 4 ∨ o = 5 ∨ o = 6 := by omega
    rcases this with rfl | rfl | rfl | rfl | rfl | rfl | rfl <;> (simp (disch := omega); exact H _ (by repeat' (first | (with_reducible exact Ext.refl _) | (with_reducible assumption) | (with_reducible refine push_ext ?_) | (with_reducible refine hset_ext ?_ ?_) | (with_reducible refine Ext.trans ?_ (by assumption)) | omega | (simp; done) | (simp; omega) | (refine Ext.size ?_) | (refine Nat.le_succ_of_le (Ext.size ?_)))))
  · have hw : wd o = 0 := by unfold wd; rw [if_neg ho]
    rw [hw] at H
    by_cases h0 : o < 0
    · simp (disch := omega) [h0]
      exact H _ (by repeat' (first | (with_reducible exact Ext.refl _) | (with_reducible assumption) | (with_reducible refine push_ext ?_) | (with_reducible refine hset_ext ?_ ?_) | (with_reducible refine Ext.trans ?_ (by assumption)) | omega | (simp; done) | (simp; omega) | (refine Ext.size ?_) | (refine Nat.le_succ_of_le (Ext.size ?_))))
    · simp (disch := omega) [h0]
      exact H _ (by repeat' (first | (with_reducible exact Ext.refl _) | (with_reducible assumption) | (with_reducible refine push_ext ?_) | (with_reducible refine hset_ext ?_ ?_) | (with_reducible refine Ext.trans ?_ (by assumption)) | omega | (simp; done) | (simp; omega) | (refine Ext.size ?_) | (refine Nat.le_succ_of_le (Ext.size ?_))))

theorem RefWidth_c {o : Int} (H : K (.int .i64 (wd o)) h) : CallsH Try.prog 46 #[.int .i64 o] h K ⟨⟩ := by
  refine n46_calls ?_
  unfold n46
  by_cases ho : 0 ≤ o ∧ o ≤ 6
  · have hw : wd o = 2 ^ o.toNat := by unfold wd; rw [if_pos ho]
    simp (disch := omega)
    refine loopA2 (fun k : Nat => .int .i64 ((2 ^ k : Nat) : Int)) (fun k : Nat => .int .i64 k) (fun k h' => h' = h ∧ k ≤ o.toNat) (fun k => o.toNat - k) 0 ⟨rfl, rfl⟩ ⟨rfl, by omega⟩ ?_
    rintro k h' ⟨rfl, hk⟩
    have hp := Nat.pow_le_pow_right (n := 2) (by omega) (show k ≤ 6 by omega)
    generalize hq : 2 ^ k = p at *
    by_cases hko : (k : Int) < o
    · simp (disch := omega) [hko]
      have hqs : (2 : Int) ^ (k + 1) = 2 * p := by rw [Int.pow_succ, ← hq]; push_cast; omega
      exact ⟨k + 1, by rw [hqs], by simp, by omega, by omega⟩
    · simp (disch := omega) [hko]
      have : o.toNat = k := by omega
      rw [hw, this, hq] at H
      exact H
  · have hw : wd o = 0 := by unfold wd; rw [if_neg ho]
    rw [hw] at H
    by_cases h0 : o < 0
    · simp (disch := omega) [h0]
      exact H
    · simp (disch := omega) [h0]
      exact H

theorem Many_c {o : Int} {v : Value} {l : List UInt8} (hB : Bytes h v l) (hl : l.length < 1000000000) (H : ∀ h', Ext h h' → K (.tuple #[.int .i64 (many l.length o), .int .i64 (if wd o = 0 then 2 else 0)]) h') : CallsH Try.prog 42 #[v, .int .i64 o] h K ⟨⟩ := by
  obtain ⟨a, c, rfl⟩ := hB.form
  refine n42_calls ?_
  unfold n42
  refine Width_c fun h1 e1 => ?_
  by_cases hw : wd o = 0
  · simp (disch := omega) [hw, many] at H ⊢
    exact H _ e1
  · simp (disch := omega) [hw, many] at H ⊢
    exact H _ e1

/-- The greatest value of a width. -/
theorem Most_c {o : Int} (H : ∀ h', Ext h h' → K (.tuple #[.int .u64 (2 ^ wd o - 1 : Nat), .int .i64 (if wd o = 0 then 2 else 0)]) h') : CallsH Try.prog 43 #[.int .i64 o] h K ⟨⟩ := by
  refine n43_calls ?_
  unfold n43
  refine Width_c fun h1 e1 => ?_
  rcases wd_cases o with ⟨hw, -⟩ | ⟨-, hw | hw | hw | hw | hw | hw | hw⟩ <;> rw [hw] at H ⊢ <;> simp (disch := omega) [Hp_shr_u64] at H ⊢ <;> exact H _ e1

theorem RefMany_c {o : Int} {v : Value} {l : List UInt8} (hB : Bytes h v l) (hl : l.length < 1000000000) (hw : wd o ≠ 0) (H : K (.int .i64 (many l.length o)) h) : CallsH Try.prog 48 #[v, .int .i64 o] h K ⟨⟩ := by
  obtain ⟨a, c, rfl⟩ := hB.form
  refine n48_calls ?_
  unfold n48
  simp (disch := omega)
  refine RefWidth_c ?_
  simp (disch := omega)
  simpa [many] using H

theorem RefMost_c {o : Int} (H : K (.int .u64 (2 ^ wd o - 1 : Nat)) h) : CallsH Try.prog 49 #[.int .i64 o] h K ⟨⟩ := by
  refine n49_calls ?_
  unfold n49
  refine loopA2 (fun k : Nat => .int .u64 ((2 ^ k - 1 : Nat) : Int)) (fun k : Nat => .int .i64 k) (fun k h' => h' = h ∧ k ≤ wd o) (fun k => wd o - k) 0 ⟨rfl, rfl⟩ ⟨rfl, by omega⟩ ?_
  rintro k h' ⟨rfl, hk⟩
  refine RefWidth_c ?_
  have hp0 := Nat.pow_pos (n := k) (show 0 < 2 by omega)
  by_cases hko : (k : Int) < wd o
  · have hp := Nat.pow_le_pow_right (n := 2) (by omega) (show k + 1 ≤ 64 by have := wd_le o; omega)
    rw [Nat.pow_succ] at hp
    generalize hq : 2 ^ k = p at *
    have := wd_le o
    simp (disch := omega) [hko]
    exact ⟨k + 1, by rw [Nat.pow_succ, hq]; omega, by simp, by omega, by omega⟩
  · simp (disch := omega) [hko]
    have : wd o = k := by omega
    rw [this] at H
    exact H

/-- Is there a count i? -/
def askE (len : Nat) (o i : Int) : Int := if wd o = 0 then 2 else if i < 0 ∨ (many len o : Nat) ≤ i then 4 else 0
theorem askE_zero {len : Nat} {o i : Int} (e : askE len o i = 0) : ∃ n : Nat, i = n ∧ wd o ≠ 0 ∧ n * wd o + wd o ≤ 8 * len := by
  unfold askE at e
  split at e
  · omega
  · rename_i hw
    split at e
    · omega
    · refine ⟨i.toNat, by omega, hw, ?_⟩
      have h1 : i.toNat < 8 * len / wd o := by show i.toNat < many len o; omega
      have h2 := Nat.mul_le_mul_right (wd o) (show i.toNat + 1 ≤ 8 * len / wd o by omega)
      have h3 := Nat.div_mul_le_self (8 * len) (wd o)
      rw [Nat.add_mul] at h2
      omega
theorem Asked_c {o i : Int} {v : Value} {l : List UInt8} (hB : Bytes h v l) (hl : l.length < 1000000000) (H : ∀ h', Ext h h' → K (.tuple #[.int .i64 (if askE l.length o i = 0 then wd o else 0 : Nat), .int .i64 (askE l.length o i)]) h') : CallsH Try.prog 75 #[v, .int .i64 o, .int .i64 i] h K ⟨⟩ := by
  refine n75_calls ?_
  unfold n75
  refine Many_c hB hl fun h1 e1 => ?_
  unfold askE at H
  by_cases hw : wd o = 0
  · simp (disch := omega) [hw] at H ⊢
    exact H _ e1
  · by_cases h0 : i < 0
    · simp (disch := omega) [hw, h0] at H ⊢
      exact H _ e1
    · by_cases h2 : (many l.length o : Nat) ≤ i
      · simp (disch := omega) [hw, h0, h2] at H ⊢
        exact H _ e1
      · simp (disch := omega) [hw, h0, h2] at H ⊢
        refine Width_c fun h3 e3 => ?_
        exact H _ (e1.trans e3)

theorem wd_ok {o : Int} (hw : wd o ≠ 0) : (wd o = 1 ∨ wd o = 2 ∨ wd o = 4) ∨ ∃ m, wd o = 8 * m ∧ 1 ≤ m ∧ m ≤ 8 := by
  rcases wd_cases o with ⟨h, -⟩ | ⟨-, h | h | h | h | h | h | h⟩
  · exact absurd h hw
  · exact .inl (.inl h)
  · exact .inl (.inr (.inl h))
  · exact .inl (.inr (.inr h))
  · exact .inr ⟨1, by omega, by omega, by omega⟩
  · exact .inr ⟨2, by omega, by omega, by omega⟩
  · exact .inr ⟨4, by omega, by omega, by omega⟩
  · exact .inr ⟨8, by omega, by omega, by omega⟩

/-- A width. -/
def wok (w : Nat) : Prop := (w = 1 ∨ w = 2 ∨ w = 4) ∨ ∃ m, w = 8 * m ∧ 1 ≤ m ∧ m ≤ 8
theorem wok_pos {w : Nat} (h : wok w) : 0 < w ∧ w ≤ 64 := by
  rcases h with h | ⟨m, h, h1, h2⟩ <;> omega
theorem shr_bd (b : UInt8) (k : Nat) : (0 : Int) ≤ (b.toNat : Int) / 2 ^ k ∧ (b.toNat : Int) / 2 ^ k < 256 := by
  have h0 := b.toNat_lt
  have h1 : (b.toNat : Int) / 2 ^ k ≤ b.toNat := Int.ediv_le_self _ (by omega)
  exact ⟨Int.ediv_nonneg (by omega) (Int.le_of_lt (Int.pow_pos (by omega))), by omega⟩
theorem wok_small {w n : Nat} (h : w = 1 ∨ w = 2 ∨ w = 4) : n * w % 8 + w ≤ 8 := by rcases h with rfl | rfl | rfl <;> omega

theorem cget_c {w n : Nat} {v : Value} {l : List UInt8} (hB : Bytes h v l) (hl : l.length < 1000000000) (hw : wok w) (hn : n * w + w ≤ 8 * l.length) (H : K (.int .u64 (cnt l w n)) h) :
    CallsH Try.prog 76 #[v, .int .i64 w, .int .i64 n] h K ⟨⟩ := by
  have hlen : 0 < l.length := by have := wok_pos hw; omega
  obtain ⟨a, c, rfl⟩ := hB.form
  obtain ⟨a, rfl, -, hc, hA⟩ := hB.at hlen
  rcases hw with hs | ⟨m, rfl, m1, m2⟩
  · have hq := cnt_small (l := l) (w := w) (i := n) (wok_small hs) (by omega)
    have hcell := hA (n * w / 8) (by omega)
    refine n76_calls ?_
    unfold n76
    rcases hs with rfl | rfl | rfl
    · simp at hcell hq
      rw [← hq] at H
      have hbd := shr_bd (l[n / 8]'(by omega)) (n % 8)
      have t1 : ((n : Int) / 8).toNat = n / 8 := by omega
      have t2 : ((n : Int) % 8).toNat = n % 8 := by omega
      simp (disch := omega) [t1, t2, hcell, Hp_shr_u64, Hp_shl_u64, Hp_mask_u64 1]
      simpa using H
    · rw [← hq] at H
      have hbd := shr_bd (l[n * 2 / 8]'(by omega)) (n * 2 % 8)
      have t1 : ((n : Int) * 2 / 8).toNat = n * 2 / 8 := by omega
      have t2 : ((n : Int) * 2 % 8).toNat = n * 2 % 8 := by omega
      simp (disch := omega) [t1, t2, hcell, Hp_shr_u64, Hp_shl_u64, Hp_mask_u64 2]
      simpa using H
    · rw [← hq] at H
      have hbd := shr_bd (l[n * 4 / 8]'(by omega)) (n * 4 % 8)
      have t1 : ((n : Int) * 4 / 8).toNat = n * 4 / 8 := by omega
      have t2 : ((n : Int) * 4 % 8).toNat = n * 4 % 8 := by omega
      simp (disch := omega) [t1, t2, hcell, Hp_shr_u64, Hp_shl_u64, Hp_mask_u64 4]
      simpa using H
  · have hp : n * (8 * m) = 8 * (n * m) := by rw [Nat.mul_left_comm]
    rw [← cnt_bytes (by omega)] at H
    generalize hpp : n * m = p at *
    have hpi : (n : Int) * (8 * (m : Int)) = 8 * p := by have := congrArg (Nat.cast (R := Int)) hp; push_cast at this; exact this
    refine n76_calls ?_
    unfold n76
    have hm8 : ¬ ((8 * (m : Int)) < 8) := by omega
    simp (disch := omega)
    refine loopA2 (fun k : Nat => .int .u64 (leN ((l.drop (p + k)).take (m - k)) : Nat)) (fun k : Nat => .int .i64 ((k : Int) - 1)) (fun k h' => h' = h ∧ k ≤ m) (fun k => k) m ⟨by simp [leN], by simp⟩ ⟨rfl, by omega⟩ ?_
    rintro k h' ⟨rfl, hk⟩
    by_cases hk0 : k = 0
    · subst hk0
      simp (disch := omega)
      simpa using H
    · have hx := leN_lt8 (l := (l.drop (p + k)).take (m - k)) (by simp; omega)
      have hst := leN_step (l := l) (p := p) (n := m) (k := k) (by omega) hk (by omega)
      have hx2 := leN_lt8 (l := (l.drop (p + (k - 1))).take (m - (k - 1))) (by simp; omega)
      have hb := (l[p + (k - 1)]'(by omega)).toNat_lt
      have hcell := hA (p + (k - 1)) (by omega)
      have t1 : ((p : Int) + (↑k - 1)).toNat = p + (k - 1) := by omega
      generalize hX : leN ((l.drop (p + k)).take (m - k)) = X at *
      generalize hY : leN ((l.drop (p + (k - 1))).take (m - (k - 1))) = Y at *
      have hwr : IntKind.u64.wrap ((X : Int) * 256) = X * 256 := by
        have : X * 256 < 18446744073709551616 := by omega
        exact wrap_u64 (by omega) (by omega)
      simp (disch := omega) [hpi, t1, hcell, Hp_shl_u64, hwr, Hp_or_high 8]
      refine ⟨k - 1, by rw [hY]; omega, by omega, by omega, by omega⟩
end Go.Proofs.Ytmppolccfjfoaaa
