import Derived.Test.YtmppolccfjfoaaaNiceE
import Derived.Test.YtmppolccfjfoaaaFacts
set_option linter.unusedSimpArgs false
set_option linter.unusedVariables false
namespace Go.Proofs.Ytmppolccfjfoaaa
open Go.Vc
variable {K : Value → Heap → Prop} {h : Heap}

/-! ### Plain -/
theorem clus {b : Int} (h0 : 9 ≤ b) (h1 : b ≤ 16) : (512 : Int) ≤ 2 ^ b.toNat ∧ (2 : Int) ^ b.toNat ≤ 65536 := by
  have : b = 9 ∨ b = 10 ∨ b = 11 ∨ b = 12 ∨ b = 13 ∨ b = 14 ∨ b = 15 ∨ b = 16 := by omega
  rcases this with rfl | rfl | rfl | rfl | rfl | rfl | rfl | rfl <;> decide
theorem clus_dvd {b : Int} (h0 : 9 ≤ b) (h1 : b ≤ 16) (p : Int) (hp : p % 2 ^ b.toNat = 0) : p % 512 = 0 := by
  have : b = 9 ∨ b = 10 ∨ b = 11 ∨ b = 12 ∨ b = 13 ∨ b = 14 ∨ b = 15 ∨ b = 16 := by omega
  rcases this with rfl | rfl | rfl | rfl | rfl | rfl | rfl | rfl <;> simp at hp <;> omega
theorem same_div {p l c : Int} (hc : 0 < c) (hl : 1 ≤ l) : p / c = (p + l - 1) / c ↔ p % c + l ≤ c := by
  have h1 := Int.emod_add_mul_ediv p c
  have h2 := Int.emod_nonneg p (show c ≠ 0 by omega)
  have h3 := Int.emod_lt_of_pos p hc
  constructor
  · intro e
    have h4 := Int.emod_add_mul_ediv (p + l - 1) c
    have h5 := Int.emod_lt_of_pos (p + l - 1) hc
    rw [← e] at h4
    omega
  · intro e
    symm
    rw [Int.ediv_eq_iff_of_pos hc]
    generalize p / c = d at *
    have : d * c = c * d := Int.mul_comm d c
    have h6 : (d + 1) * c = c * d + c := by rw [Int.add_mul, Int.mul_comm]; omega
    constructor <;> omega

/-- An entry that may be. -/
def MayE (k p l b : Int) : Prop :=
  9 ≤ b ∧ b ≤ 16 ∧ ((k = 0 ∨ k = 1) ∧ p = 0 ∧ l = 0 ∨ k = 2 ∧ l = 0 ∧ 0 < p ∧ p ≤ 268435456 ∧ p % 2 ^ b.toNat = 0 ∨
    k = 3 ∧ 1 ≤ l ∧ l ≤ 16383 ∧ l < 2 ^ b.toNat ∧ 2 ^ b.toNat ≤ p ∧ p ≤ 268435456 - l ∧ p % 2 ^ b.toNat + l ≤ 2 ^ b.toNat)
instance (k p l b : Int) : Decidable (MayE k p l b) := by unfold MayE; infer_instance

/-! ### Contracts -/
theorem Bits_c {b : Int} (ht : 9 ≤ b → b ≤ 16 → K (.bool true) h) (hf : ¬ (9 ≤ b ∧ b ≤ 16) → K (.bool false) h) : CallsH Try.prog 20 #[.int .i64 b] h K ⟨⟩ := by
  refine n20_calls ?_
  unfold n20
  ((try (simp (disch := omega))); repeat' ((first | (refine Split.mk (fun _ => ?_) (fun _ => ?_))) <;> ((try (simp (disch := omega))))))
  all_goals first | exact ht (by omega) (by omega) | exact hf (by omega)

theorem Cluster_c {b : Int} (h0 : 0 ≤ b) (h1 : b ≤ 62) (H : K (.int .i64 ((2 : Int) ^ b.toNat)) h) : CallsH Try.prog 64 #[.int .i64 b] h K ⟨⟩ := by
  refine n64_calls ?_
  unfold n64
  refine loop2 (fun c i h' => h' = h ∧ ∃ n : Nat, (n : Int) ≤ b ∧ i = .int .i64 n ∧ c = .int .i64 ((2 : Int) ^ n)) (fun c i _ => (b - (match i with | .int _ n => n | _ => 0)).toNat) ⟨rfl, 0, by omega, rfl, rfl⟩ ?_
  rintro c i h' ⟨rfl, n, hn, rfl, rfl⟩
  simp (disch := omega)
  refine ⟨fun hlt => ?_, fun hlt => ?_⟩
  · have hp : (2 : Int) ^ (n + 1) ≤ 2 ^ 62 := by
      exact_mod_cast Nat.pow_le_pow_right (n := 2) (by omega) (show n + 1 ≤ 62 by omega)
    have hp0 : (0 : Int) < 2 ^ n := Int.pow_pos (by omega)
    rw [Int.pow_succ] at hp
    simp (disch := omega)
    refine ⟨⟨n + 1, by omega, by simp, ?_⟩, by omega⟩
    rw [Int.pow_succ, Int.mul_comm]
  · simp (disch := omega)
    have : b = n := by omega
    subst this
    simpa using H

theorem Place_c {p b : Int} (h0 : 9 ≤ b) (h1 : b ≤ 16) (ht : 0 < p ∧ p ≤ 268435456 ∧ p % 2 ^ b.toNat = 0 → K (.bool true) h) (hf : ¬ (0 < p ∧ p ≤ 268435456 ∧ p % 2 ^ b.toNat = 0) → K (.bool false) h) : CallsH Try.prog 65 #[.int .i64 p, .int .i64 b] h K ⟨⟩ := by
  refine n65_calls ?_
  unfold n65
  have hc := clus h0 h1
  ((try (simp (disch := omega))); repeat' ((first | (refine Split.mk (fun _ => ?_) (fun _ => ?_)) | (refine Cluster_c (by omega) (by omega) ?_)) <;> ((try (simp (disch := omega))))))
  all_goals first | exact ht (by omega) | exact hf (by omega)

theorem May_c {k p l b : Int} (ht : ∀ h', Ext h h' → MayE k p l b → K (.bool true) h') (hf : ∀ h', Ext h h' → ¬ MayE k p l b → K (.bool false) h') : CallsH Try.prog 15 #[.agg #[.int .i64 k, .int .i64 p, .int .i64 l], .int .i64 b] h K ⟨⟩ := by
  refine n15_calls ?_
  unfold n15
  have ht := ht _ (push_ext (o := .cells #[.int .i64 k, .int .i64 p, .int .i64 l] 24) (.refl h))
  have hf := hf _ (push_ext (o := .cells #[.int .i64 k, .int .i64 p, .int .i64 l] 24) (.refl h))
  simp (disch := omega) [Hp_box, Value.cells]
  refine Bits_c (fun h0 h1 => ?_) (fun hn => ?_)
  · have hc := clus h0 h1
    ((try (simp (disch := omega))); repeat' ((first | (refine Split.mk (fun _ => ?_) (fun _ => ?_)) | (refine JoinN.mk ?_) | (refine Cluster_c (by omega) (by omega) ?_) | (refine Place_c h0 h1 (fun _ => ?_) (fun _ => ?_))) <;> ((try (simp (disch := omega))))))
    all_goals first | exact ht (by unfold MayE; omega) | exact hf (by unfold MayE; omega)
  · simp (disch := omega)
    exact hf (by unfold MayE; omega)

theorem Check_c {k p l b : Int} (hl : -9223372036854775808 ≤ l ∧ l < 9223372036854775808) (ht : ∀ h', Ext h h' → MayE k p l b → K (.int .i64 0) h') (hf : ∀ h', Ext h h' → ¬ MayE k p l b → K (.int .i64 2) h') : CallsH Try.prog 18 #[.agg #[.int .i64 k, .int .i64 p, .int .i64 l], .int .i64 b] h K ⟨⟩ := by
  refine n18_calls ?_
  unfold n18
  have ht := ht _ (push_ext (o := .cells #[.int .i64 k, .int .i64 p, .int .i64 l] 24) (.refl h))
  have hf := hf _ (push_ext (o := .cells #[.int .i64 k, .int .i64 p, .int .i64 l] 24) (.refl h))
  simp (disch := omega) [Hp_box, Value.cells]
  by_cases hb : 9 ≤ b ∧ b ≤ 16
  · obtain ⟨h0, h1⟩ := hb
    have hc := clus h0 h1
    have hw : IntKind.i64.wrap (2 ^ b.toNat) = 2 ^ b.toNat := wrap_i64 (by omega) (by omega)
    have hsd : 1 ≤ l → (p / 2 ^ b.toNat = (p + l - 1) / 2 ^ b.toNat ↔ p % 2 ^ b.toNat + l ≤ 2 ^ b.toNat) := fun hl => same_div (by omega) hl
    simp (disch := omega) [Hp_shl, IntKind.bits, hw]
    clear hw
    ((try (simp (disch := omega))); repeat' ((first | (refine Split.mk (fun _ => ?_) (fun _ => ?_)) | (refine JoinN.mk ?_)) <;> ((try (simp (disch := omega))))))
    all_goals first | exact ht (by unfold MayE; omega) | exact hf (by unfold MayE; omega)
  · ((try (simp (disch := omega))); repeat' ((first | (refine Split.mk (fun _ => ?_) (fun _ => ?_))) <;> ((try (simp (disch := omega))))))
    all_goals exact hf (by unfold MayE; omega)

/-- An entry's word. -/
def wordE (k p l : Int) : Int := if k = 2 then p + 2 else p * 65536 + 4 * l + k

theorem may_bd {k p l b : Int} (m : MayE k p l b) : 9 ≤ b ∧ b ≤ 16 ∧ 0 ≤ k ∧ k ≤ 3 ∧ 0 ≤ p ∧ p ≤ 268435456 ∧ 0 ≤ l ∧ l ≤ 16383 ∧ (k = 2 → p % 512 = 0) := by
  unfold MayE at m
  obtain ⟨h0, h1, h2⟩ := m
  have hc := clus h0 h1
  refine ⟨h0, h1, by omega, by omega, by omega, by omega, by omega, by omega, fun hk => ?_⟩
  exact clus_dvd h0 h1 p (by omega)

theorem Word_c {k p l b : Int} (hl : -9223372036854775808 ≤ l ∧ l < 9223372036854775808) (ht : ∀ h', Ext h h' → MayE k p l b → K (.tuple #[.int .u64 (wordE k p l), .int .i64 0]) h') (hf : ∀ h', Ext h h' → ¬ MayE k p l b → K (.tuple #[.int .u64 0, .int .i64 2]) h') : CallsH Try.prog 16 #[.agg #[.int .i64 k, .int .i64 p, .int .i64 l], .int .i64 b] h K ⟨⟩ := by
  refine n16_calls ?_
  unfold n16
  simp (disch := omega) [Hp_box, Value.cells]
  refine Check_c hl (fun h' e m => ?_) (fun h' e m => ?_)
  · have ht := ht h' ((push_ext (.refl h)).trans e) m
    have bd := may_bd m
    have hs := e.size
    simp at hs
    have c0 := hcell_of_ext e (a := ⟨h.size, 0, none⟩) (by simp)
    have c1 := hcell_of_ext e (a := ⟨h.size, 1, none⟩) (by simp)
    have c2 := hcell_of_ext e (a := ⟨h.size, 2, none⟩) (by simp)
    simp at c0 c1 c2
    simp (disch := omega) [c0]
    refine JoinN.mk ?_
    unfold wordE at ht
    unfold MayE at m
    have hc := clus bd.1 bd.2.1
    simp (disch := omega) [c0]
    refine JoinN.mk ?_
    simp (disch := omega) [c0]
    refine Split.mk (fun hk => ?_) (fun hk => ?_)
    · subst hk
      simp (disch := omega) [c1, Hp_or_low 2]
      simpa [Int.add_comm] using ht
    · simp (disch := omega) [hk]
      refine Split.mk (fun hk3 => ?_) (fun hk3 => ?_)
      · subst hk3
        simp (disch := omega) [c1, c2, Hp_shl_u64, Hp_or_low 2, Hp_or_low 16]
        simpa [Int.add_comm, Int.mul_comm, Int.add_left_comm, Int.add_assoc] using ht
      · simp (disch := omega) [hk3]
        rw [if_neg hk, show p * 65536 + 4 * l + k = k by omega] at ht
        exact ht
  · have hf := hf h' ((push_ext (.refl h)).trans e) m
    simp (disch := omega)
    exact hf

end Go.Proofs.Ytmppolccfjfoaaa
