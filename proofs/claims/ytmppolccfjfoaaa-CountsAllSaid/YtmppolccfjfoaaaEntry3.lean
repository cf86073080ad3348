import Derived.Test.YtmppolccfjfoaaaEntry2
set_option linter.unusedSimpArgs false
set_option linter.unusedVariables false
namespace Go.Proofs.Ytmppolccfjfoaaa
open Go.Vc
variable {K : Value → Heap → Prop} {h : Heap}

theorem RefWord_c {k p l b : Int} (m : MayE k p l b) (H : ∀ h', Ext h h' → K (.int .u64 (wordE k p l)) h') : CallsH Try.prog 19 #[.agg #[.int .i64 k, .int .i64 p, .int .i64 l]] h K ⟨⟩ := by
  refine n19_calls ?_
  unfold n19
  have bd := may_bd m
  have hc := clus bd.1 bd.2.1
  have H := H _ (push_ext (o := .cells #[.int .i64 k, .int .i64 p, .int .i64 l] 24) (.refl h))
  unfold wordE at H
  unfold MayE at m
  simp (disch := omega) [Hp_box, Value.cells]
  refine Split.mk (fun hk => ?_) (fun hk => ?_)
  · simp (disch := omega)
    rw [if_pos hk] at H
    exact H
  · rw [if_neg hk] at H
    simp (disch := omega)
    exact H

set_option maxHeartbeats 4000000 in
theorem RefOf_c {w b : Int} (w0 : 0 ≤ w) (w1 : w < 18446744073709551616) (b0 : 9 ≤ b) (b1 : b ≤ 16)
    (ht : ∀ k p l, MayE k p l b → wordE k p l = w → ∀ h', Ext h h' → K (.tuple #[.agg #[.int .i64 k, .int .i64 p, .int .i64 l], .bool true]) h')
    (hf : (∀ k p l, MayE k p l b → wordE k p l ≠ w) → ∀ h', Ext h h' → K (.tuple #[.agg #[.int .i64 0, .int .i64 0, .int .i64 0], .bool false]) h') :
    CallsH Try.prog 22 #[.int .u64 w, .int .i64 b] h K ⟨⟩ := by
  refine n22_calls ?_
  unfold n22
  simp (disch := omega)
  refine JoinN_in0 (fun H => Ext h H ∧ H.size = h.size + 2 ∧ (∀ i, i < 3 → hcell H ⟨h.size, i, none⟩ = some (.int .i64 0) ∧ hfrozen H ⟨h.size, i, none⟩ = false) ∧
    (∀ i, hfrozen H ⟨h.size + 1, i, none⟩ = false) ∧ ∃ p : Int, hcell H ⟨h.size + 1, 0, none⟩ = some (.int .i64 (w % 4)) ∧ hcell H ⟨h.size + 1, 1, none⟩ = some (.int .i64 p) ∧ hcell H ⟨h.size + 1, 2, none⟩ = some (.int .i64 0) ∧
      p = if w % 4 = 2 then (w - 2) % 9223372036854775808 else 0) (fun k hk => ?_) (fun H HH => ?_)
  · simp (disch := omega)
    refine Split.mk (fun hw => ?_) (fun hw => ?_)
    · simp (disch := omega)
      refine hk _ ⟨(by repeat' (first | (with_reducible exact Ext.refl _) | (with_reducible assumption) | (with_reducible refine push_ext ?_) | (with_reducible refine hset_ext ?_ ?_) | (with_reducible refine Ext.trans ?_ (by assumption)) | omega | (simp; done) | (simp; omega) | (refine Ext.size ?_) | (refine Nat.le_succ_of_le (Ext.size ?_)))), by simp, ?_, by intro i; simp, (w - 2) % 9223372036854775808, by simp, by simp, by simp, by rw [if_pos hw]⟩
      intro i hi
      have : i = 0 ∨ i = 1 ∨ i = 2 := by omega
      rcases this with rfl | rfl | rfl <;> simp
    · simp (disch := omega)
      refine hk _ ⟨(by repeat' (first | (with_reducible exact Ext.refl _) | (with_reducible assumption) | (with_reducible refine push_ext ?_) | (with_reducible refine hset_ext ?_ ?_) | (with_reducible refine Ext.trans ?_ (by assumption)) | omega | (simp; done) | (simp; omega) | (refine Ext.size ?_) | (refine Nat.le_succ_of_le (Ext.size ?_)))), by simp, ?_, by intro i; simp, 0, by simp, by simp, by simp, by rw [if_neg hw]⟩
      intro i hi
      have : i = 0 ∨ i = 1 ∨ i = 2 := by omega
      rcases this with rfl | rfl | rfl <;> simp
  obtain ⟨he, hsz, h0, hz, p, ck, cp, cl, hp⟩ := HH
  have z0 := h0 0 (by omega)
  have z1 := h0 1 (by omega)
  have z2 := h0 2 (by omega)
  clear h0
  refine JoinN_in0 (fun H => Ext h H ∧ H.size = h.size + 2 ∧ (∀ i, i < 3 → hcell H ⟨h.size, i, none⟩ = some (.int .i64 0) ∧ hfrozen H ⟨h.size, i, none⟩ = false) ∧
    ∃ p l : Int, hcell H ⟨h.size + 1, 0, none⟩ = some (.int .i64 (w % 4)) ∧ hcell H ⟨h.size + 1, 1, none⟩ = some (.int .i64 p) ∧ hcell H ⟨h.size + 1, 2, none⟩ = some (.int .i64 l) ∧
      p = (if w % 4 = 2 then (w - 2) % 9223372036854775808 else if w % 4 = 3 then w / 65536 else 0) ∧ l = (if w % 4 = 3 then w % 65536 / 4 else 0)) (fun k hk => ?_) (fun H HH => ?_)
  · simp (disch := omega)
    refine Split.mk (fun hw => ?_) (fun hw => ?_)
    · simp (disch := omega) [ck, cp, cl, hz]
      refine hk _ ⟨(by repeat' (first | (with_reducible exact Ext.refl _) | (with_reducible assumption) | (with_reducible refine push_ext ?_) | (with_reducible refine hset_ext ?_ ?_) | (with_reducible refine Ext.trans ?_ (by assumption)) | omega | (simp; done) | (simp; omega) | (refine Ext.size ?_) | (refine Nat.le_succ_of_le (Ext.size ?_)))), by simpa using hsz, ?_, w / 65536, w % 65536 / 4, by simp [ck], by simp [cp], by simp [cl], ?_, ?_⟩
      · intro i hi
        have : i = 0 ∨ i = 1 ∨ i = 2 := by omega
        rcases this with rfl | rfl | rfl <;> simp [z0, z1, z2]
      · rw [if_neg (by omega), if_pos hw]
      · rw [if_pos hw]
    · simp (disch := omega)
      refine hk _ ⟨he, hsz, ?_, p, 0, ck, cp, cl, ?_, ?_⟩
      · intro i hi
        have : i = 0 ∨ i = 1 ∨ i = 2 := by omega
        rcases this with rfl | rfl | rfl <;> simp [z0, z1, z2]
      · rw [hp]
        split
        · rfl
        · first | rfl | rw [if_neg hw]
      · first | rfl | rw [if_neg hw]
  clear z0 z1 z2 ck cp cl hz
  obtain ⟨he, hsz, h0, p', l, ck, cp, cl, r1, r2⟩ := HH
  have z0 := h0 0 (by omega)
  have z1 := h0 1 (by omega)
  have z2 := h0 2 (by omega)
  generalize hk : w % 4 = k at *
  simp (disch := omega) [ck, cp, cl]
  have no : (¬ MayE k p' l b ∨ wordE k p' l ≠ w) → ∀ k1 p1 l1, MayE k1 p1 l1 b → wordE k1 p1 l1 ≠ w := by
    intro hn k1 p1 l1 m e
    have inv := wordE_inv m e
    have bd := may_bd m
    have e0 : k = k1 := by omega
    have e1 : p' = p1 := by
      rw [r1]
      split
      · have := inv.2.2.2.1 (by omega); omega
      · split
        · have := inv.2.2.2.2.1 (by omega); omega
        · have : k1 = 0 ∨ k1 = 1 := by omega
          rcases this with x | x
          · have := inv.2.2.2.2.2.1 x; omega
          · have := inv.2.2.2.2.2.2 x; omega
    have e2 : l = l1 := by
      rw [r2]
      split
      · have := inv.2.2.2.2.1 (by omega); omega
      · have : k1 = 2 ∨ k1 = 0 ∨ k1 = 1 := by omega
        rcases this with x | x | x
        · have := inv.2.2.2.1 x; omega
        · have := inv.2.2.2.2.2.1 x; omega
        · have := inv.2.2.2.2.2.2 x; omega
    subst e0; subst e1; subst e2
    rcases hn with hn | hn
    · exact hn m
    · exact hn e
  refine May_c (fun h' e m => ?_) (fun h' e m => ?_)
  · have ce := ext_cell e rfl; have fe := ext_frz e rfl; have se := (e).size; (try simp only [Array.size_push, hset_size] at ce); (try simp only [Array.size_push, hset_size] at fe); (try simp only [Array.size_push, hset_size] at se)
    rw [hsz] at ce fe
    simp (disch := omega) [ce, fe, z0, z1, z2, ck, cp, cl]
    refine RefWord_c m (fun h'' e' => ?_)
    have he' : Ext H h'' := e.trans e'
    have che' := ext_cell he' rfl; have fhe' := ext_frz he' rfl; have she' := (he').size; (try simp only [Array.size_push, hset_size] at che'); (try simp only [Array.size_push, hset_size] at fhe'); (try simp only [Array.size_push, hset_size] at she')
    rw [hsz] at che' fhe'
    simp (disch := omega) [che', fhe', z0, z1, z2]
    refine Split.mk (fun hw => ?_) (fun hw => ?_)
    · simp (disch := omega) [che', fhe', z0, z1, z2, ck, cp, cl]
      exact ht _ _ _ m hw _ (by repeat' (first | (with_reducible exact Ext.refl _) | (with_reducible assumption) | (with_reducible refine push_ext ?_) | (with_reducible refine hset_ext ?_ ?_) | (with_reducible refine Ext.trans ?_ (by assumption)) | omega | (simp; done) | (simp; omega) | (refine Ext.size ?_) | (refine Nat.le_succ_of_le (Ext.size ?_))))
    · simp (disch := omega) [che', fhe', z0, z1, z2]
      exact hf (no (.inr hw)) _ (by repeat' (first | (with_reducible exact Ext.refl _) | (with_reducible assumption) | (with_reducible refine push_ext ?_) | (with_reducible refine hset_ext ?_ ?_) | (with_reducible refine Ext.trans ?_ (by assumption)) | omega | (simp; done) | (simp; omega) | (refine Ext.size ?_) | (refine Nat.le_succ_of_le (Ext.size ?_))))
  · have ce := ext_cell e rfl; have fe := ext_frz e rfl; have se := (e).size; (try simp only [Array.size_push, hset_size] at ce); (try simp only [Array.size_push, hset_size] at fe); (try simp only [Array.size_push, hset_size] at se)
    rw [hsz] at ce fe
    simp (disch := omega) [ce, fe, z0, z1, z2]
    exact hf (no (.inl m)) _ (by repeat' (first | (with_reducible exact Ext.refl _) | (with_reducible assumption) | (with_reducible refine push_ext ?_) | (with_reducible refine hset_ext ?_ ?_) | (with_reducible refine Ext.trans ?_ (by assumption)) | omega | (simp; done) | (simp; omega) | (refine Ext.size ?_) | (refine Nat.le_succ_of_le (Ext.size ?_))))

theorem Known_c (H : ∀ h', Ext h h' → K (.bool true) h') : CallsH Try.prog 21 #[] h K ⟨⟩ := by
  refine n21_calls ?_
  unfold n21
  simp (disch := omega)
  refine Word_c (by omega) (fun h1 e1 m => ?_) (fun h1 e1 m => absurd (by unfold MayE; simp) m)
  simp (disch := omega) [wordE]
  refine Word_c (by omega) (fun h2 e2 m => ?_) (fun h1 e1 m => absurd (by unfold MayE; simp) m)
  simp (disch := omega) [wordE]
  refine Of_c (by decide) (by decide) ?_ ?_ ?_
  · intro n; omega
  · intro k p l m e h3 e3
    have inv := wordE_inv m e
    have hk : k = 2 := by omega
    have hp : p = 1024 ∧ l = 0 := by omega
    clear inv e
    simp (disch := omega)
    refine Of_c (by decide) (by decide) ?_ ?_ ?_
    · intro n; omega
    · intro k p l m' e h4 e4
      exfalso
      have inv := wordE_inv m' e
      have hc := clus (show (9 : Int) ≤ 9 by decide) (show (9 : Int) ≤ 16 by decide)
      unfold MayE at m'
      omega
    · intro _ _ n h4 e4
      have ce4 := ext_cell e4 rfl; have fe4 := ext_frz e4 rfl; have se4 := (e4).size; (try simp only [Array.size_push, hset_size] at ce4); (try simp only [Array.size_push, hset_size] at fe4); (try simp only [Array.size_push, hset_size] at se4)
      have n1 : ¬ h4.size = h3.size := by omega
      have n2 : ¬ h3.size = h4.size := by omega
      simp (disch := omega) [ce4, fe4, n1, n2, hk, hp, Split_true]
      have l3 : Ext h h3 := e1.trans (e2.trans e3)
      have z3 := l3.size
      exact H _ (by repeat' (first | (with_reducible exact Ext.refl _) | (with_reducible assumption) | (with_reducible refine push_ext ?_) | (with_reducible refine hset_ext ?_ ?_) | (with_reducible refine Ext.trans ?_ (by assumption)) | omega | (simp; done) | (simp; omega) | (refine Ext.size ?_) | (refine Nat.le_succ_of_le (Ext.size ?_))))
  · intro _ _ n
    exact (n 2 1024 0 (by unfold MayE; simp) (by simp [wordE])).elim
end Go.Proofs.Ytmppolccfjfoaaa
