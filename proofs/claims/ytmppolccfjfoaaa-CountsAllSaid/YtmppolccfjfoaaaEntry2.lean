import Derived.Test.YtmppolccfjfoaaaEntry
set_option linter.unusedSimpArgs false
set_option linter.unusedVariables false
namespace Go.Proofs.Ytmppolccfjfoaaa
open Go.Vc
variable {K : Value → Heap → Prop} {h : Heap}

theorem wordE_inv {k p l b w : Int} (m : MayE k p l b) (e : wordE k p l = w) : 0 ≤ w ∧ w < 2305843009213693952 ∧ w % 4 = k ∧ (k = 2 → w - 2 = p ∧ l = 0) ∧ (k = 3 → w / 65536 = p ∧ w / 4 % 16384 = l) ∧ (k = 0 → w = 0 ∧ p = 0 ∧ l = 0) ∧ (k = 1 → w = 1 ∧ p = 0 ∧ l = 0) := by
  have bd := may_bd m
  have hc := clus bd.1 bd.2.1
  unfold MayE at m
  unfold wordE at e
  split at e <;> omega

set_option maxHeartbeats 4000000 in
theorem Of_c {w b : Int} (w0 : 0 ≤ w) (w1 : w < 18446744073709551616)
    (hb : ¬ (9 ≤ b ∧ b ≤ 16) → ∀ h', Ext h h' → K (.tuple #[.agg #[.int .i64 0, .int .i64 0, .int .i64 0], .int .i64 2]) h')
    (ht : ∀ k p l, MayE k p l b → wordE k p l = w → ∀ h', Ext h h' → K (.tuple #[.agg #[.int .i64 k, .int .i64 p, .int .i64 l], .int .i64 0]) h')
    (hf : 9 ≤ b → b ≤ 16 → (∀ k p l, MayE k p l b → wordE k p l ≠ w) → ∀ h', Ext h h' → K (.tuple #[.agg #[.int .i64 0, .int .i64 0, .int .i64 0], .int .i64 190]) h') :
    CallsH Try.prog 17 #[.int .u64 w, .int .i64 b] h K ⟨⟩ := by
  refine n17_calls ?_
  unfold n17
  by_cases hbits : 9 ≤ b ∧ b ≤ 16
  case neg =>
    ((try (simp (disch := omega))); repeat' ((first | (refine Split.mk (fun _ => ?_) (fun _ => ?_))) <;> ((try (simp (disch := omega))))))
    all_goals exact hb hbits _ (by repeat' (first | (with_reducible exact Ext.refl _) | (with_reducible assumption) | (with_reducible refine push_ext ?_) | (with_reducible refine hset_ext ?_ ?_) | (with_reducible refine Ext.trans ?_ (by assumption)) | omega | (simp; done) | (simp; omega) | (refine Ext.size ?_) | (refine Nat.le_succ_of_le (Ext.size ?_))))
  obtain ⟨b0, b1⟩ := hbits
  clear hb
  simp (disch := omega) [Hp_mask_u64 2]
  refine JoinN_in0 (fun H => Ext h H ∧ H.size = h.size + 2 ∧ (∀ i, i < 3 → hcell H ⟨h.size, i, none⟩ = some (.int .i64 0) ∧ hfrozen H ⟨h.size, i, none⟩ = false) ∧
    ∃ k p l : Int, hcell H ⟨h.size + 1, 0, none⟩ = some (.int .i64 k) ∧ hcell H ⟨h.size + 1, 1, none⟩ = some (.int .i64 p) ∧ hcell H ⟨h.size + 1, 2, none⟩ = some (.int .i64 l) ∧
      k = w % 4 ∧ (k = 2 → p = IntKind.i64.wrap (w - w % 4) ∧ l = 0) ∧ (k = 3 → p = w / 65536 ∧ l = w / 4 % 16384) ∧ (k ≠ 2 → k ≠ 3 → p = 0 ∧ l = 0)) (fun k hk => ?_) (fun H HH => ?_)
  · simp (disch := omega)
    refine JoinN.mk ?_
    ((try (simp (disch := omega))); repeat' ((first | (refine Split.mk (fun _ => ?_) (fun _ => ?_))) <;> ((try (simp (disch := omega))))))
    · simp (disch := omega) [Hp_clear_u64 2, Try.cvw25_2]
      refine hk _ ⟨(by repeat' (first | (with_reducible exact Ext.refl _) | (with_reducible assumption) | (with_reducible refine push_ext ?_) | (with_reducible refine hset_ext ?_ ?_) | (with_reducible refine Ext.trans ?_ (by assumption)) | omega | (simp; done) | (simp; omega) | (refine Ext.size ?_) | (refine Nat.le_succ_of_le (Ext.size ?_)))), by simp, ?_, w % 4, _, 0, by simp, by simp, by simp, rfl, fun _ => ⟨rfl, rfl⟩, fun _ => by omega, fun _ _ => by omega⟩
      intro i hi
      have : i = 0 ∨ i = 1 ∨ i = 2 := by omega
      rcases this with rfl | rfl | rfl <;> simp
    · simp (disch := omega) [Hp_shr_u64, Hp_mask_u64 14]
      refine hk _ ⟨(by repeat' (first | (with_reducible exact Ext.refl _) | (with_reducible assumption) | (with_reducible refine push_ext ?_) | (with_reducible refine hset_ext ?_ ?_) | (with_reducible refine Ext.trans ?_ (by assumption)) | omega | (simp; done) | (simp; omega) | (refine Ext.size ?_) | (refine Nat.le_succ_of_le (Ext.size ?_)))), by simp, ?_, w % 4, _, _, by simp, by simp, by simp, rfl, fun _ => by omega, fun _ => ⟨rfl, rfl⟩, fun _ _ => by omega⟩
      intro i hi
      have : i = 0 ∨ i = 1 ∨ i = 2 := by omega
      rcases this with rfl | rfl | rfl <;> simp
    · refine hk _ ⟨(by repeat' (first | (with_reducible exact Ext.refl _) | (with_reducible assumption) | (with_reducible refine push_ext ?_) | (with_reducible refine hset_ext ?_ ?_) | (with_reducible refine Ext.trans ?_ (by assumption)) | omega | (simp; done) | (simp; omega) | (refine Ext.size ?_) | (refine Nat.le_succ_of_le (Ext.size ?_)))), by simp, ?_, w % 4, 0, 0, by simp, by simp, by simp, rfl, fun _ => by omega, fun _ => by omega, fun _ _ => ⟨rfl, rfl⟩⟩
      intro i hi
      have : i = 0 ∨ i = 1 ∨ i = 2 := by omega
      rcases this with rfl | rfl | rfl <;> simp
  · obtain ⟨he, hsz, h0, k, p, l, ck, cp, cl, r1, r2, r3, r4⟩ := HH
    have hl : -9223372036854775808 ≤ l ∧ l < 9223372036854775808 := by
      have : k = 2 ∨ k = 3 ∨ (k ≠ 2 ∧ k ≠ 3) := by omega
      rcases this with e | e | ⟨e1, e2⟩
      · have := r2 e; omega
      · have := r3 e; omega
      · have := r4 e1 e2; omega
    simp (disch := omega) [ck, cp, cl]
    have no : (¬ MayE k p l b ∨ wordE k p l ≠ w) → ∀ k' p' l', MayE k' p' l' b → wordE k' p' l' ≠ w := by
      intro hn k' p' l' m e
      have inv := wordE_inv m e
      have bd := may_bd m
      have hk : k = k' := by omega
      have : k' = 2 ∨ k' = 3 ∨ k' = 0 ∨ k' = 1 := by omega
      rcases this with x | x | x | x
      · have h1 := inv.2.2.2.1 x
        have h2 := r2 (by omega)
        rw [wrap_i64 (by omega) (by omega)] at h2
        have e1 : p = p' := by omega
        have e2 : l = l' := by omega
        subst hk; subst e1; subst e2
        rcases hn with hn | hn
        · exact hn m
        · exact hn e
      · have h1 := inv.2.2.2.2.1 x
        have h2 := r3 (by omega)
        have e1 : p = p' := by omega
        have e2 : l = l' := by omega
        subst hk; subst e1; subst e2
        rcases hn with hn | hn
        · exact hn m
        · exact hn e
      · have h1 := inv.2.2.2.2.2.1 x
        have h2 := r4 (by omega) (by omega)
        have e1 : p = p' := by omega
        have e2 : l = l' := by omega
        subst hk; subst e1; subst e2
        rcases hn with hn | hn
        · exact hn m
        · exact hn e
      · have h1 := inv.2.2.2.2.2.2 x
        have h2 := r4 (by omega) (by omega)
        have e1 : p = p' := by omega
        have e2 : l = l' := by omega
        subst hk; subst e1; subst e2
        rcases hn with hn | hn
        · exact hn m
        · exact hn e
    have z0 := h0 0 (by omega)
    have z1 := h0 1 (by omega)
    have z2 := h0 2 (by omega)
    refine Word_c hl (fun h' e m => ?_) (fun h' e m => ?_)
    · have ce := ext_cell e rfl; have fe := ext_frz e rfl; have se := (e).size; (try simp only [Array.size_push, hset_size] at ce); (try simp only [Array.size_push, hset_size] at fe); (try simp only [Array.size_push, hset_size] at se)
      rw [hsz] at ce fe
      simp (disch := omega) [ce, fe, z0, z1, z2]
      refine Split.mk (fun hw => ?_) (fun hw => ?_)
      · simp (disch := omega) [ce, fe, z0, z1, z2, ck, cp, cl]
        exact ht k p l m hw _ (by repeat' (first | (with_reducible exact Ext.refl _) | (with_reducible assumption) | (with_reducible refine push_ext ?_) | (with_reducible refine hset_ext ?_ ?_) | (with_reducible refine Ext.trans ?_ (by assumption)) | omega | (simp; done) | (simp; omega) | (refine Ext.size ?_) | (refine Nat.le_succ_of_le (Ext.size ?_))))
      · simp (disch := omega) [ce, fe, z0, z1, z2]
        exact hf b0 b1 (no (.inr hw)) _ (by repeat' (first | (with_reducible exact Ext.refl _) | (with_reducible assumption) | (with_reducible refine push_ext ?_) | (with_reducible refine hset_ext ?_ ?_) | (with_reducible refine Ext.trans ?_ (by assumption)) | omega | (simp; done) | (simp; omega) | (refine Ext.size ?_) | (refine Nat.le_succ_of_le (Ext.size ?_))))
    · have ce := ext_cell e rfl; have fe := ext_frz e rfl; have se := (e).size; (try simp only [Array.size_push, hset_size] at ce); (try simp only [Array.size_push, hset_size] at fe); (try simp only [Array.size_push, hset_size] at se)
      rw [hsz] at ce fe
      simp (disch := omega) [ce, fe, z0, z1, z2]
      exact hf b0 b1 (no (.inl m)) _ (by repeat' (first | (with_reducible exact Ext.refl _) | (with_reducible assumption) | (with_reducible refine push_ext ?_) | (with_reducible refine hset_ext ?_ ?_) | (with_reducible refine Ext.trans ?_ (by assumption)) | omega | (simp; done) | (simp; omega) | (refine Ext.size ?_) | (refine Nat.le_succ_of_le (Ext.size ?_))))
end Go.Proofs.Ytmppolccfjfoaaa
