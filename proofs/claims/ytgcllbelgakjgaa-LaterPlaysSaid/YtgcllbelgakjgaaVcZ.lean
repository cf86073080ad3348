/- Append of noughts to a slice that is nil, of elements of any size. -/
import Derived.Test.YtgcllbelgakjgaaVcG
namespace Go.Vc
open Go
set_option linter.unusedSimpArgs false
set_option linter.unusedVariables false
section
variable {P : Program} {K : Value → Heap → Prop} {h : Heap}
def isSl (P : Program) (t : TypeId) : Bool := match P.underlying t with | some (.slice _) => true | _ => false
theorem Hp_cap {q : Bool} {t ty : TypeId} {a : Option Addr} {n c : Nat} (ht : isSl P t = true) : Hp P q (Builtin.cap_ #[t] ty #[.slice a n c]) K h ⟨⟩ ↔ K (.int .i64 c) h := by
  unfold isSl at ht
  rw [Hp_iff]
  unfold Builtin.cap_
  simp only [List.getElem?_toArray, List.getElem?_cons_zero, List.getElem_toArray, List.getElem_cons_zero]
  cases hu : P.underlying t with
  | none => rw [hu] at ht; cases ht
  | some d =>
    rw [hu] at ht
    rw [hp_bind', hp_underlying hu]
    cases d <;> first | (cases ht; done) | exact Iff.rfl
theorem Hp_appendZN {t t2 e s by_ k : Nat} {k' : IntKind} (ht : slT P t e s by_ = true) (ht2 : isInt P t2 = true) (hk : 0 < k) (hB : (2 * k + 1024) * by_ ≤ 281474976710656) (hb0 : 0 < by_) (hs : 0 < s)
    (H : ∀ c h' (rest : List Value), k ≤ c → h' = h.push (.cells rest.toArray e) → rest.length = c * s → K (.slice (some ⟨h.size, 0, none⟩) k c) h') :
    Hp P false (Builtin.append_ #[t, t2] t #[.slice none 0 0, .int k' (k : Int)]) K h ⟨⟩ := by
  obtain ⟨i, z', hu, hi, hsz, hby, hz, hzs⟩ := slT_spec ht
  rw [Hp_iff]
  have hk63 : (k : Int) < 140737488355328 := by
    have h1 : (2 * k + 1024) * 1 ≤ (2 * k + 1024) * by_ := Nat.mul_le_mul_left _ hb0
    omega
  have hkb : (k : Int) * by_ ≤ 281474976710656 := by
    have h1 : k * by_ ≤ (2 * k + 1024) * by_ := Nat.mul_le_mul_right _ (by omega)
    have h2 := Nat.le_trans h1 hB
    have h3 : ((k * by_ : Nat) : Int) ≤ 281474976710656 := by omega
    rwa [Int.natCast_mul] at h3
  have hz2 : ∀ (K : TypeDesc → Heap → Prop), ∃ d k0, (hp P false (underlying t2) K h ↔ K d h) ∧ d = .int k0 := by
    intro K
    unfold isInt at ht2
    cases hu2 : P.underlying t2 with
    | none => rw [hu2] at ht2; cases ht2
    | some d =>
      rw [hu2] at ht2
      cases d <;> first | (cases ht2; done) | exact ⟨_, _, hp_underlying hu2, rfl⟩
  unfold Builtin.append_
  simp only [List.getElem?_toArray, List.getElem?_cons_succ, List.getElem?_cons_zero, List.getElem_toArray, List.getElem_cons_succ, List.getElem_cons_zero]
  rw [hp_bind', hp_underlying hu]
  simp only
  rw [hp_bind', hp_sizeOf hi]
  rw [hp_bind']
  obtain ⟨d, k0, hd, rfl⟩ := hz2 _
  rw [hd]
  simp only [pure_bind, Bool.false_eq_true, if_false, Bool.not_true, if_true, true_or, and_true]
  rw [hp_bind', hp_asInt, wrap_i64 (by omega) (by omega)]
  rw [if_neg (by omega), hp_bind', hp_info hi]
  have e1 : (2 : Int) ^ 48 = 281474976710656 := by decide
  rw [if_neg (by rw [hby, e1]; omega)]
  simp only [Int.toNat_natCast]
  have happ : ∀ (K : Array Value → Heap → Prop), hp P false (if k * i.size = 0 then pure #[] else do pure (Builtin.zeroCells (← zeroValue e).cells k)) K h ↔ K (Builtin.zeroCells z'.cells k) h := by
    intro K
    split
    · rename_i h0
      rw [hsz] at h0
      have := Nat.mul_pos hk hs
      omega
    · rw [hp_bind', hp_zeroValue hi hz]; exact Iff.rfl
  rw [if_neg (by omega)]
  have hcapb := nextcap_le (N := k) (c := 0) (by omega)
  simp only [Nat.zero_add]
  have hNB : Builtin.nextslicecap k 0 * by_ ≤ 281474976710656 := Nat.le_trans (Nat.mul_le_mul_right _ hcapb) hB
  rw [hp_bind', hp_info hi]
  rw [if_neg (by have : IntKind.i64.max = 9223372036854775807 := by decide
                 omega)]
  rw [hp_bind', hp_info hi]
  rw [if_neg (by rw [hby]; have : (2 : Nat) ^ 48 = 281474976710656 := by decide
                 omega)]
  rw [hp_bind']
  refine choose_cap (by have : (2 : Nat) ^ 63 = 9223372036854775808 := by decide
                        omega) fun nc hnc => ?_
  rw [hp_bind', hp_info hi, hp_bind', hp_askRoom]
  rw [hp_bind', hsz, hp_firstCells (s := s) (k := 0) (news := []) (.inl ⟨rfl, rfl, rfl⟩) (Nat.le_refl _)]
  rw [hsz] at happ
  rw [hp_bind', happ]
  rw [hp_bind', hp_zeroValue hi hz, hp_bind']
  refine hp_newRow ?_
  have hl1 : ∀ n, (Builtin.zeroCells z'.cells n).toList.length = n * s := fun n => by rw [Array.length_toList, zeroCells_size, hzs]
  refine H nc _ ((Builtin.zeroCells z'.cells k).toList ++ (Builtin.zeroCells z'.cells (nc - k)).toList) hnc ?_ ?_
  · congr 2
    apply Array.ext'; simp
  · rw [List.length_append, hl1, hl1, ← Nat.add_mul]
    congr 1; omega
end
end Go.Vc
