/- Tables of entries: reading and writing one. -/
import Derived.Test.YtmppolccfjfoaaaEntry4
import Derived.Test.YtmppolccfjfoaaaWire4
set_option linter.unusedSimpArgs false
set_option linter.unusedVariables false
namespace Go.Proofs.Ytmppolccfjfoaaa
open Go.Vc
variable {K : Value → Heap → Prop} {h : Heap}

open Classical in
/-- What a word says, and the error. -/
noncomputable def ofR (w b : Int) : (Int × Int × Int) × Int :=
  if 9 ≤ b ∧ b ≤ 16 then (if hx : ∃ e : Int × Int × Int, MayE e.1 e.2.1 e.2.2 b ∧ wordE e.1 e.2.1 e.2.2 = w then (hx.choose, 0) else ((0, 0, 0), 190)) else ((0, 0, 0), 2)

theorem ofR_may {k p l w b : Int} (m : MayE k p l b) (e : wordE k p l = w) : ofR w b = ((k, p, l), 0) := by
  have hx : ∃ e : Int × Int × Int, MayE e.1 e.2.1 e.2.2 b ∧ wordE e.1 e.2.1 e.2.2 = w := ⟨(k, p, l), m, e⟩
  have bd := may_bd m
  unfold ofR
  rw [if_pos ⟨bd.1, bd.2.1⟩, dif_pos hx]
  obtain ⟨h1, h2, h3⟩ := wordE_inj m hx.choose_spec.1 (by rw [hx.choose_spec.2, e])
  congr 1
  exact Prod.ext h1 (Prod.ext h2 h3)
theorem ofR_no {w b : Int} (h0 : 9 ≤ b) (h1 : b ≤ 16) (n : ∀ k p l, MayE k p l b → wordE k p l ≠ w) : ofR w b = ((0, 0, 0), 190) := by
  unfold ofR
  rw [if_pos ⟨h0, h1⟩, dif_neg (fun ⟨e, m, h⟩ => n _ _ _ m h)]
theorem ofR_bits {w b : Int} (n : ¬ (9 ≤ b ∧ b ≤ 16)) : ofR w b = ((0, 0, 0), 2) := by unfold ofR; rw [if_neg n]

theorem OfR_c {w b k p l e : Int} (w0 : 0 ≤ w) (w1 : w < 18446744073709551616) (hE : ofR w b = ((k, p, l), e)) (H : ∀ h', Ext h h' → K (.tuple #[.agg #[.int .i64 k, .int .i64 p, .int .i64 l], .int .i64 e]) h') : CallsH Try.prog 17 #[.int .u64 w, .int .i64 b] h K ⟨⟩ := by
  refine Of_c w0 w1 (fun n h' e' => ?_) (fun k' p' l' m e1 h' e' => ?_) (fun b0 b1 n h' e' => ?_)
  · rw [ofR_bits n] at hE; cases hE; exact H h' e'
  · rw [ofR_may m e1] at hE; cases hE; exact H h' e'
  · rw [ofR_no b0 b1 n] at hE; cases hE; exact H h' e'

/-- A table's entry, and the error. -/
noncomputable def getE (l : List UInt8) (i b : Int) : (Int × Int × Int) × Int :=
  if ¬ (9 ≤ b ∧ b ≤ 16) then ((0, 0, 0), 2) else if i < 0 ∨ l.length / 8 ≤ i then ((0, 0, 0), 4) else ofR (leN ((l.drop (8 * i.toNat)).take 8)) b

theorem getR8 {l : List UInt8} {i : Nat} (hi : i < l.length / 8) : getR l (8 * i) 8 = (leN ((l.drop (8 * i)).take 8), 0) := by
  unfold getR
  rw [if_neg (by omega), if_pos (by omega)]
  rfl

theorem EGet_c {v : Value} {l : List UInt8} {i b k p n e : Int} (hB : Bytes h v l) (hl : l.length < 4611686018427387904) (hE : getE l i b = ((k, p, n), e))
    (H : ∀ h', Ext h h' → K (.tuple #[.agg #[.int .i64 k, .int .i64 p, .int .i64 n], .int .i64 e]) h') : CallsH Try.prog 34 #[v, .int .i64 i, .int .i64 b] h K ⟨⟩ := by
  obtain ⟨o, c, rfl⟩ := hB.form
  unfold getE at hE
  by_cases hb : 9 ≤ b ∧ b ≤ 16
  · rw [if_neg (by simpa using hb)] at hE
    by_cases hi : i < 0 ∨ l.length / 8 ≤ i
    · rw [if_pos hi] at hE
      cases hE
      refine n34_calls ?_
      unfold n34
      by_cases h0 : i < 0
      · simp (disch := omega) [h0]
        exact H _ (by repeat' (first | (with_reducible exact Ext.refl _) | (with_reducible assumption) | (with_reducible refine push_ext ?_) | (with_reducible refine hset_ext ?_ ?_) | (with_reducible refine Ext.trans ?_ (by assumption)) | omega | (simp; done) | (simp; omega) | (refine Ext.size ?_) | (refine Nat.le_succ_of_le (Ext.size ?_))))
      · simp (disch := omega) [h0]
        exact H _ (by repeat' (first | (with_reducible exact Ext.refl _) | (with_reducible assumption) | (with_reducible refine push_ext ?_) | (with_reducible refine hset_ext ?_ ?_) | (with_reducible refine Ext.trans ?_ (by assumption)) | omega | (simp; done) | (simp; omega) | (refine Ext.size ?_) | (refine Nat.le_succ_of_le (Ext.size ?_))))
    · rw [if_neg hi] at hE
      obtain ⟨i', rfl⟩ := Int.eq_ofNat_of_zero_le (show 0 ≤ i by omega)
      simp only [Int.toNat_natCast] at hE
      have hx := leN_lt8 (l := (l.drop (8 * i')).take 8) (by simp; omega)
      have hB1 := hB.ext (push_ext (o := .cells #[.int .i64 0, .int .i64 0, .int .i64 0] 24) (.refl h))
      have hg := getR8 (l := l) (i := i') (by omega)
      refine n34_calls ?_
      unfold n34
      simp (disch := omega)
      refine Get_c hB1 hl ?_
      simp (disch := omega) only [Hp_extract0, Hp_extract1, hg]
      refine OfR_c (by omega) (by omega) hE (fun h' e' => ?_)
      have ce' := ext_cell e' rfl; have fe' := ext_frz e' rfl; have se' := (e').size; (try simp only [Array.size_push, hset_size] at ce'); (try simp only [Array.size_push, hset_size] at fe'); (try simp only [Array.size_push, hset_size] at se')
      simp (disch := omega) [ce', fe']
      exact H _ (by repeat' (first | (with_reducible exact Ext.refl _) | (with_reducible assumption) | (with_reducible refine push_ext ?_) | (with_reducible refine hset_ext ?_ ?_) | (with_reducible refine Ext.trans ?_ (by assumption)) | omega | (simp; done) | (simp; omega) | (refine Ext.size ?_) | (refine Nat.le_succ_of_le (Ext.size ?_))))
  · rw [if_pos hb] at hE
    cases hE
    refine n34_calls ?_
    unfold n34
    by_cases h0 : b < 9
    · simp (disch := omega) [h0]
      exact H _ (by repeat' (first | (with_reducible exact Ext.refl _) | (with_reducible assumption) | (with_reducible refine push_ext ?_) | (with_reducible refine hset_ext ?_ ?_) | (with_reducible refine Ext.trans ?_ (by assumption)) | omega | (simp; done) | (simp; omega) | (refine Ext.size ?_) | (refine Nat.le_succ_of_le (Ext.size ?_))))
    · simp (disch := omega) [h0]
      exact H _ (by repeat' (first | (with_reducible exact Ext.refl _) | (with_reducible assumption) | (with_reducible refine push_ext ?_) | (with_reducible refine hset_ext ?_ ?_) | (with_reducible refine Ext.trans ?_ (by assumption)) | omega | (simp; done) | (simp; omega) | (refine Ext.size ?_) | (refine Nat.le_succ_of_le (Ext.size ?_))))

theorem ERefGet_c {v : Value} {l : List UInt8} {i b k p n e : Int} (hB : Bytes h v l) (hl : l.length < 4611686018427387904) (hE : getE l i b = ((k, p, n), e))
    (H : ∀ h', Ext h h' → K (.tuple #[.agg #[.int .i64 k, .int .i64 p, .int .i64 n], .int .i64 e]) h') : CallsH Try.prog 35 #[v, .int .i64 i, .int .i64 b] h K ⟨⟩ := by
  obtain ⟨o, c, rfl⟩ := hB.form
  unfold getE at hE
  by_cases hb : 9 ≤ b ∧ b ≤ 16
  · rw [if_neg (by simpa using hb)] at hE
    by_cases hi : i < 0 ∨ l.length / 8 ≤ i
    · rw [if_pos hi] at hE
      cases hE
      refine n35_calls ?_
      unfold n35
      by_cases h0 : i < 0
      · simp (disch := omega)
        refine Bits_c (fun _ _ => ?_) (fun n => absurd hb n)
        simp (disch := omega) [h0]
        exact H _ (by repeat' (first | (with_reducible exact Ext.refl _) | (with_reducible assumption) | (with_reducible refine push_ext ?_) | (with_reducible refine hset_ext ?_ ?_) | (with_reducible refine Ext.trans ?_ (by assumption)) | omega | (simp; done) | (simp; omega) | (refine Ext.size ?_) | (refine Nat.le_succ_of_le (Ext.size ?_))))
      · simp (disch := omega)
        refine Bits_c (fun _ _ => ?_) (fun n => absurd hb n)
        simp (disch := omega) [h0]
        exact H _ (by repeat' (first | (with_reducible exact Ext.refl _) | (with_reducible assumption) | (with_reducible refine push_ext ?_) | (with_reducible refine hset_ext ?_ ?_) | (with_reducible refine Ext.trans ?_ (by assumption)) | omega | (simp; done) | (simp; omega) | (refine Ext.size ?_) | (refine Nat.le_succ_of_le (Ext.size ?_))))
    · rw [if_neg hi] at hE
      obtain ⟨i', rfl⟩ := Int.eq_ofNat_of_zero_le (show 0 ≤ i by omega)
      simp only [Int.toNat_natCast] at hE
      have hx := leN_lt8 (l := (l.drop (8 * i')).take 8) (by simp; omega)
      have hB1 := hB.ext (push_ext (o := .cells #[.int .i64 0, .int .i64 0, .int .i64 0] 24) (.refl h))
      obtain ⟨a, rfl, -, hc, hA⟩ := hB1.at (by omega)
      have hbX : Bytes (h.push (.cells #[.int .i64 0, .int .i64 0, .int .i64 0] 24)) (.slice (some (sub a (8 * i') c)) 8 (c - 8 * i')) ((l.drop (8 * i')).take 8) :=
        .inr ⟨_, c - 8 * i', by congr 1; simp; omega, by simp; omega, by have := hA.part (8 * i') (8 * i' + 8) c (by omega) (by omega) hc; rwa [List.drop_take, Nat.add_sub_cancel_left] at this⟩
      refine n35_calls ?_
      unfold n35
      simp (disch := omega)
      refine Bits_c (fun _ _ => ?_) (fun n => absurd hb n)
      have t1 : ((8 : Int) * i').toNat = 8 * i' := by omega
      have t2 : ((8 : Int) * i' + 8).toNat = 8 * i' + 8 := by omega
      simp (disch := omega) [t1, t2]
      refine Value_c hbX (by simp; omega) ?_
      refine RefOf_c (by omega) (by omega) hb.1 hb.2 (fun k' p' l' m e1 h' e' => ?_) (fun no h' e' => ?_)
      · rw [ofR_may m e1] at hE; cases hE
        have ce' := ext_cell e' rfl; have fe' := ext_frz e' rfl; have se' := (e').size; (try simp only [Array.size_push, hset_size] at ce'); (try simp only [Array.size_push, hset_size] at fe'); (try simp only [Array.size_push, hset_size] at se')
        simp (disch := omega) [ce', fe']
        exact H _ (by repeat' (first | (with_reducible exact Ext.refl _) | (with_reducible assumption) | (with_reducible refine push_ext ?_) | (with_reducible refine hset_ext ?_ ?_) | (with_reducible refine Ext.trans ?_ (by assumption)) | omega | (simp; done) | (simp; omega) | (refine Ext.size ?_) | (refine Nat.le_succ_of_le (Ext.size ?_))))
      · rw [ofR_no hb.1 hb.2 no] at hE; cases hE
        have ce' := ext_cell e' rfl; have fe' := ext_frz e' rfl; have se' := (e').size; (try simp only [Array.size_push, hset_size] at ce'); (try simp only [Array.size_push, hset_size] at fe'); (try simp only [Array.size_push, hset_size] at se')
        simp (disch := omega) [ce', fe']
        exact H _ (by repeat' (first | (with_reducible exact Ext.refl _) | (with_reducible assumption) | (with_reducible refine push_ext ?_) | (with_reducible refine hset_ext ?_ ?_) | (with_reducible refine Ext.trans ?_ (by assumption)) | omega | (simp; done) | (simp; omega) | (refine Ext.size ?_) | (refine Nat.le_succ_of_le (Ext.size ?_))))
  · rw [if_pos hb] at hE
    cases hE
    refine n35_calls ?_
    unfold n35
    simp (disch := omega)
    refine Bits_c (fun b0 b1 => absurd ⟨b0, b1⟩ hb) (fun n => ?_)
    simp (disch := omega)
    exact H _ (by repeat' (first | (with_reducible exact Ext.refl _) | (with_reducible assumption) | (with_reducible refine push_ext ?_) | (with_reducible refine hset_ext ?_ ?_) | (with_reducible refine Ext.trans ?_ (by assumption)) | omega | (simp; done) | (simp; omega) | (refine Ext.size ?_) | (refine Nat.le_succ_of_le (Ext.size ?_))))
end Go.Proofs.Ytmppolccfjfoaaa
