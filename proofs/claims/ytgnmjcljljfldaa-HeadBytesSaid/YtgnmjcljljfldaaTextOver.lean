/- A text is read as it was written. -/
import Derived.Test.YtgnmjcljljfldaaWire4
set_option linter.unusedSimpArgs false
set_option linter.unusedVariables false
namespace Go.Proofs.Ytgnmjcljljfldaa
open Go.Vc
variable {K : Value → Heap → Prop} {h : Heap}

theorem allZ_replicate (n : Nat) : allZ (List.replicate n 0) = true := by simp [allZ]

theorem textR_over {l s : List UInt8} {p m : Int} (hE : setTextE l.length p m s = 0) : textR (over l p.toNat (fieldB m.toNat s)) p m = (s, 0) := by
  unfold setTextE at hE
  split at hE
  · omega
  · rename_i hz
    have hz : fieldE l.length p m = 0 := by simpa using hz
    split at hE
    · omega
    · rename_i hs
      have hb := fieldE_zero hz
      obtain ⟨p', rfl⟩ := Int.eq_ofNat_of_zero_le hb.2.2.1
      obtain ⟨m', rfl⟩ := Int.eq_ofNat_of_zero_le hb.1
      simp only [Int.toNat_natCast]
      have hfl := fieldB_length (m := m') (s := s) (by omega)
      have hlen : (over l p' (fieldB m' s)).length = l.length := over_length (by omega)
      have hdrop : (over l p' (fieldB m' s)).drop p' = fieldB m' s ++ l.drop (p' + (4 + m')) := by
        unfold over
        rw [List.append_assoc, List.drop_append, List.drop_eq_nil_of_le (by simp; omega)]
        simp only [List.length_take, Nat.min_eq_left (show p' ≤ l.length by omega), Nat.sub_self, List.drop_zero, List.nil_append, hfl]
      have h4 : ((over l p' (fieldB m' s)).drop p').take 4 = leB 4 s.length := by
        rw [hdrop]; unfold fieldB
        rw [List.append_assoc, List.take_append_of_le_length (by simp), List.take_of_length_le (by simp)]
      have hn : leN (leB 4 s.length) = s.length := by rw [leN_leB]; exact Nat.mod_eq_of_lt (by omega)
      have htail : ∀ k, ((over l p' (fieldB m' s)).take (p' + 4 + m')).drop (p' + k) = (fieldB m' s).drop k := by
        intro k
        rw [← List.drop_drop, List.drop_take, hdrop, show p' + 4 + m' - p' = 4 + m' by omega, ← hfl, List.take_left]
      unfold textR
      rw [hlen, hz]
      simp only [ne_eq, not_true_eq_false, if_false, Int.toNat_natCast, h4, hn]
      rw [if_neg (by omega)]
      have h5 : ((over l p' (fieldB m' s)).take (p' + 4 + m')).drop (p' + 4 + s.length) = List.replicate (m' - s.length) 0 := by
        rw [show p' + 4 + s.length = p' + (4 + s.length) by omega, htail]; unfold fieldB
        rw [List.drop_append, List.drop_eq_nil_of_le (by simp)]
        simp
      rw [h5, allZ_replicate, if_pos rfl]
      have h6 : ((over l p' (fieldB m' s)).take (p' + 4 + s.length)).drop (p' + 4) = s := by
        rw [← List.drop_drop, List.drop_take, hdrop, show p' + 4 + s.length - p' = 4 + s.length by omega]
        unfold fieldB
        rw [List.append_assoc, List.append_assoc, List.take_append, List.take_of_length_le (by simp), List.drop_append, List.drop_eq_nil_of_le (by simp)]
        simp
      rw [h6]
end Go.Proofs.Ytgnmjcljljfldaa
