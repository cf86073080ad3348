/- Clusters and their places. -/
import Derived.Test.YtgnmjcljljfldaaNice
import Derived.Test.YtgnmjcljljfldaaFacts
set_option linter.unusedSimpArgs false
set_option linter.unusedVariables false
namespace Go.Proofs.Ytgnmjcljljfldaa
open Go.Vc
variable {K : Value → Heap → Prop} {h : Heap}

theorem clus {b : Int} (h0 : 9 ≤ b) (h1 : b ≤ 16) : (512 : Int) ≤ 2 ^ b.toNat ∧ (2 : Int) ^ b.toNat ≤ 65536 := by
  have : b = 9 ∨ b = 10 ∨ b = 11 ∨ b = 12 ∨ b = 13 ∨ b = 14 ∨ b = 15 ∨ b = 16 := by omega
  rcases this with rfl | rfl | rfl | rfl | rfl | rfl | rfl | rfl <;> decide
theorem clus_dvd {b : Int} (h0 : 9 ≤ b) (h1 : b ≤ 16) (p : Int) (hp : p % 2 ^ b.toNat = 0) : p % 512 = 0 := by
  have : b = 9 ∨ b = 10 ∨ b = 11 ∨ b = 12 ∨ b = 13 ∨ b = 14 ∨ b = 15 ∨ b = 16 := by omega
  rcases this with rfl | rfl | rfl | rfl | rfl | rfl | rfl | rfl <;> simp at hp <;> omega

theorem Cluster_c {b : Int} (h0 : 0 ≤ b) (h1 : b ≤ 62) (H : K (.int .i64 ((2 : Int) ^ b.toNat)) h) : CallsH Try.prog 28 #[.int .i64 b] h K ⟨⟩ := by
  refine n28_calls ?_
  unfold n28
  refine loop2 (fun c i h' => h' = h ∧ ∃ n : Nat, (n : Int) ≤ b ∧ i = .int .i64 n ∧ c = .int .i64 ((2 : Int) ^ n)) (fun c i _ => (b - (match i with | .int _ n => n | _ => 0)).toNat) ⟨rfl, 0, by omega, rfl, rfl⟩ ?_
  rintro c i h' ⟨rfl, n, hn, rfl, rfl⟩
  simp (disch := omega)
  refine ⟨fun hlt => ?_, fun hlt => ?_⟩
  · have hp : (2 : Int) ^ (n + 1) ≤ 2 ^ 62 := by
      exact_mod_cast Nat.pow_le_pow_right (n := 2) (by omega) (show n + 1 ≤ 62 by omega)
    have hp0 : (0 : Int) < 2 ^ n := Int.pow_pos (by omega)
    rw [Int.pow_succ] at hp
    simp (disch := omega)
    refine ⟨⟨n + 1, by omega, by simp, ?_⟩, by omega⟩
    rw [Int.pow_succ, Int.mul_comm]
  · simp (disch := omega)
    have : b = n := by omega
    subst this
    simpa using H

theorem Place_c {p b : Int} (h0 : 9 ≤ b) (h1 : b ≤ 16) (ht : 0 < p ∧ p ≤ 268435456 ∧ p % 2 ^ b.toNat = 0 → K (.bool true) h) (hf : ¬ (0 < p ∧ p ≤ 268435456 ∧ p % 2 ^ b.toNat = 0) → K (.bool false) h) : CallsH Try.prog 62 #[.int .i64 p, .int .i64 b] h K ⟨⟩ := by
  refine n62_calls ?_
  unfold n62
  have hc := clus h0 h1
  ((try (simp (disch := omega))); repeat' ((first | (refine Split.mk (fun _ => ?_) (fun _ => ?_)) | (refine Cluster_c (by omega) (by omega) ?_)) <;> ((try (simp (disch := omega))))))
  all_goals first | exact ht (by omega) | exact hf (by omega)
end Go.Proofs.Ytgnmjcljljfldaa
