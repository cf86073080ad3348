/- append to a slice that is full: a new block. -/
import Derived.Test.YtcbbdnaelimpfaaGreatVcG
namespace Go.Vc
open Go
set_option linter.unusedSimpArgs false
set_option linter.unusedVariables false
set_option linter.unusedSectionVars false
section
variable {P : Program} {q : Bool} {K : Value → Heap → Prop} {h : Heap}
theorem Hp_appendF {t t2 e s by_ n c k : Nat} {base : Option Addr} {x : Value} {vs news : List Value} (ht : slT P t e s by_ = true) (ht2 : notInt P t2 = true) (hv : Src s h (.slice base n c) n vs) (hcap : c < n + k) (hs : 0 < s) (hx : Src s h x k news)
    (hB : (2 * (n + k) + 1024) * by_ ≤ 281474976710656) (hb0 : 0 < by_)
    (H : ∀ v' h', OwnG e s h' v' (vs ++ news) → Ext h h' → (∀ b, blkG v' = some b → h.size ≤ b) → (∀ b, blkV v' = some b → h.size ≤ b) → K v' h') :
    Hp P false (Builtin.append_ #[t, t2] t #[.slice base n c, x]) K h ⟨⟩ := by
  obtain ⟨i, z, hu, hi, hsz, hby, hz, hzs⟩ := slT_spec ht
  rw [Hp_iff]
  have hnl := hx.len
  have hn := hv.len
  have hz2 : ∀ (K : TypeDesc → Heap → Prop), ∃ d, (hp P false (underlying t2) K h ↔ K d h) ∧ ∀ k, d ≠ .int k := by
    intro K
    unfold notInt at ht2
    cases hu2 : P.underlying t2 with
    | none => rw [hu2] at ht2; cases ht2
    | some d =>
      rw [hu2] at ht2
      exact ⟨d, hp_underlying hu2, fun k e => by rw [e] at ht2; cases ht2⟩
  unfold Builtin.append_
  simp only [List.getElem?_toArray, List.getElem?_cons_succ, List.getElem?_cons_zero, List.getElem_toArray, List.getElem_cons_succ, List.getElem_cons_zero]
  rw [hp_bind', hp_underlying hu]
  simp only
  rw [hp_bind', hp_sizeOf hi]
  rw [hp_bind']
  obtain ⟨d, hd, hnd⟩ := hz2 _
  rw [hd]
  split
  · exact absurd rfl (hnd _)
  simp only [pure_bind, Bool.false_eq_true, if_false, Bool.not_false, if_true, false_or]
  rw [hp_bind', hp_lenOf hx]
  rw [if_neg (by omega)]
  have hcapb := nextcap_le hcap
  have hNB : Builtin.nextslicecap (n + k) c * by_ ≤ 281474976710656 := Nat.le_trans (Nat.mul_le_mul_right _ hcapb) hB
  have hsmall : n + k < 140737488355328 := by
    have h1 : (2 * (n + k) + 1024) * 1 ≤ (2 * (n + k) + 1024) * by_ := Nat.mul_le_mul_left _ hb0
    omega
  rw [hp_bind', hp_info hi]
  rw [if_neg (by rw [hby]; rintro ⟨_, h0⟩; omega)]
  rw [hp_bind', hp_info hi]
  rw [if_neg (by rw [hby]; have : (2 : Nat) ^ 48 = 281474976710656 := by decide
                 omega)]
  rw [hp_bind']
  refine choose_cap (by have : (2 : Nat) ^ 63 = 9223372036854775808 := by decide
                        omega) fun nc hnc => ?_
  rw [hp_bind', hp_info hi, hp_bind', hp_askRoom]
  rw [hp_bind', hsz, hp_firstCells hv (Nat.le_refl _), ← hn, List.take_length]
  rw [hp_bind', hp_firstCells hx (Nat.le_refl _), ← hnl, List.take_length]
  rw [hp_bind', hp_zeroValue hi hz, hp_bind']
  refine hp_newRow ?_
  have hrl : (Builtin.zeroCells z.cells (nc - (n + k))).toList.length = (nc - (n + k)) * s := by
    rw [Array.length_toList, zeroCells_size, hzs]
  have hcells : vs.toArray ++ news.toArray ++ Builtin.zeroCells z.cells (nc - (n + k)) = ((vs ++ news) ++ (Builtin.zeroCells z.cells (nc - (n + k))).toList).toArray := by
    apply Array.ext'; simp
  rw [hcells]
  obtain ⟨nc', rfl⟩ : ∃ m, nc = m + 1 := ⟨nc - 1, by omega⟩
  refine H _ _ (.inr ⟨h.size, 0, n + k, nc', [], (Builtin.zeroCells z.cells (nc' + 1 - (n + k))).toList, rfl, by simp [hn, hnl, Nat.add_mul], hnc, rfl, by simp, ?_⟩)
    ((by repeat' (first | (with_reducible exact Ext.refl _) | (with_reducible assumption) | (with_reducible refine push_ext ?_) | (with_reducible refine hset_ext ?_ ?_) | (with_reducible refine Ext.trans ?_ (by assumption)) | omega | (simp; done) | (simp; omega) | (refine Ext.size ?_) | (refine Nat.le_succ_of_le (Ext.size ?_))))) (fun b hb => by cases hb; exact Nat.le_refl _) (fun b hb => by cases hb; exact Nat.le_refl _)
  have : (n + k) * s + (nc' + 1 - (n + k)) * s = (nc' + 1) * s := by rw [← Nat.add_mul]; congr 1; omega
  simp only [List.nil_append, List.length_append, hrl]
  rw [hn, hnl, ← Nat.add_mul]
  omega
end
end Go.Vc
