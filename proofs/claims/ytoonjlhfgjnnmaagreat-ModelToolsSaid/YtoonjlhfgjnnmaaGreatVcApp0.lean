/- append of no noughts. -/
import Derived.Test.YtoonjlhfgjnnmaaGreatVcTag
namespace Go.Vc
open Go
set_option linter.unusedSimpArgs false
set_option linter.unusedVariables false
section
variable {P : Program} {K : Value → Heap → Prop} {h : Heap}
theorem Hp_appendZ0 {t t2 e by_ b n c : Nat} {k' : IntKind} {z : Value} {vs : List Value} (ht : slT P t e 1 by_ = true) (ht2 : isInt P t2 = true) (hz0 : zeroOf P e = some z) (hz1 : one z = true) (ho : OwnT e 1 h (.slice (some ⟨b, 0, none⟩) n c) vs) (H : K (.slice (some ⟨b, 0, none⟩) n c) h) :
    Hp P false (Builtin.append_ #[t, t2] t #[.slice (some ⟨b, 0, none⟩) n c, .int k' 0]) K h ⟨⟩ := by
  obtain ⟨i, z', hu, hi, hsz, hby, hz, hzs⟩ := slT_spec ht
  have hzz : z' = z := by
    unfold zeroOf at hz0
    rw [hi] at hz0
    simp only at hz0
    rw [hz] at hz0; cases hz0; rfl
  subst hzz
  rw [Hp_iff]
  obtain ⟨rest, h1, h2, h3, h4⟩ : ∃ rest, vs.length = n * 1 ∧ n ≤ c ∧ h[b]? = some (.cells (vs ++ rest).toArray e) ∧ (vs ++ rest).length = c * 1 := by
    rcases ho with ⟨hv, -⟩ | ⟨b', n', c', rest, hv, h1, h2, h3, h4⟩
    · cases hv
    · cases hv
      exact ⟨rest, h1, h2, h3, h4⟩
  have hz2 : ∀ (K : TypeDesc → Heap → Prop), ∃ d k0, (hp P false (underlying t2) K h ↔ K d h) ∧ d = .int k0 := by
    intro K
    unfold isInt at ht2
    cases hu2 : P.underlying t2 with
    | none => rw [hu2] at ht2; cases ht2
    | some d =>
      rw [hu2] at ht2
      cases d <;> first | (cases ht2; done) | exact ⟨_, _, hp_underlying hu2, rfl⟩
  unfold Builtin.append_
  simp only [List.getElem?_toArray, List.getElem?_cons_succ, List.getElem?_cons_zero, List.getElem_toArray, List.getElem_cons_succ, List.getElem_cons_zero]
  rw [hp_bind', hp_underlying hu]
  simp only
  rw [hp_bind', hp_sizeOf hi]
  rw [hp_bind']
  obtain ⟨d, k0, hd, rfl⟩ := hz2 _
  rw [hd]
  simp only [pure_bind, Bool.false_eq_true, if_false, Bool.not_true, if_true, true_or, and_true]
  rw [hp_bind', hp_asInt, wrap_i64 (by omega) (by omega)]
  rw [if_neg (by omega), hp_bind', hp_info hi]
  have e1 : (2 : Int) ^ 48 = 281474976710656 := by decide
  rw [if_neg (by rw [hby, e1]; omega)]
  simp only [Int.toNat_zero, Nat.add_zero]
  rw [if_pos h2]
  rw [if_pos (Nat.zero_mul _), hp_bind', hp_pure, hsz, hp_bind']
  have hn : vs.length = n * 1 := h1
  rw [← hn]
  refine hp_storeCells_own (new := []) h3 (fun i _ hh => absurd hh.2 (Nat.not_lt_zero _)) (by simp) (by simp) ?_
  exact H
end
end Go.Vc
