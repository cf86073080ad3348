/- Contracts of layer 1: numbers. -/
import Derived.Test.YtgnmjcljljfldaaBytes
import Derived.Test.YtgnmjcljljfldaaNice
import Derived.Test.YtgnmjcljljfldaaFacts
set_option linter.unusedSimpArgs false
set_option linter.unusedVariables false
namespace Go.Proofs.Ytgnmjcljljfldaa
open Go.Vc
variable {K : Value → Heap → Prop} {h : Heap}

theorem lies_c {v : Value} {l : List UInt8} {p n : Int} (hB : Bytes h v l) (hl : l.length < 4611686018427387904) (hn : -4611686018427387904 < n)
    (ht : 0 ≤ p ∧ n ≤ l.length ∧ p ≤ l.length - n → K (.bool true) h) (hf : ¬ (0 ≤ p ∧ n ≤ l.length ∧ p ≤ l.length - n) → K (.bool false) h) : CallsH Try.prog 84 #[v, .int .i64 p, .int .i64 n] h K ⟨⟩ := by
  refine n84_calls ?_
  unfold n84
  obtain ⟨o, c, rfl⟩ := hB.form
  ((try (simp (disch := omega))); repeat' ((first | (refine Split.mk (fun _ => ?_) (fun _ => ?_))) <;> ((try (simp (disch := omega))))))
  all_goals first | exact ht (by omega) | exact hf (by omega)

/-- What is read: the number, the error. -/
def getR (l : List UInt8) (p n : Int) : Nat × Int :=
  if n < 1 ∨ 8 < n then (0, 2) else if 0 ≤ p ∧ n ≤ l.length ∧ p ≤ l.length - n then (leN ((l.drop p.toNat).take n.toNat), 0) else (0, 4)

theorem Get_c {v : Value} {l : List UInt8} {p n : Int} (hB : Bytes h v l) (hl : l.length < 4611686018427387904)
    (H : K (.tuple #[.int .u64 (getR l p n).1, .int .i64 (getR l p n).2]) h) : CallsH Try.prog 50 #[v, .int .i64 p, .int .i64 n] h K ⟨⟩ := by
  refine n50_calls ?_
  unfold n50
  unfold getR at H
  by_cases hn : n < 1 ∨ 8 < n
  · rw [if_pos hn] at H
    ((try (simp (disch := omega))); repeat' ((first | (refine Split.mk (fun _ => ?_) (fun _ => ?_))) <;> ((try (simp (disch := omega))))))
    all_goals exact H
  · rw [if_neg hn] at H
    simp (disch := omega)
    refine lies_c hB hl (by omega) (fun hp => ?_) (fun hp => ?_)
    · rw [if_pos hp] at H
      obtain ⟨p', rfl⟩ := Int.eq_ofNat_of_zero_le hp.1
      obtain ⟨n', rfl⟩ := Int.eq_ofNat_of_zero_le (show 0 ≤ n by omega)
      obtain ⟨o, c, rfl⟩ := hB.form
      obtain ⟨a, rfl, -, hc, hA⟩ := hB.at (by omega)
      simp (disch := omega)
      refine loop2 (fun x i h' => h' = h ∧ ∃ k : Nat, k ≤ n' ∧ i = .int .i64 ((k : Int) - 1) ∧ x = .int .u64 (leN ((l.drop (p' + k)).take (n' - k)) : Nat)) (fun x i _ => (match i with | .int _ n => (n + 1).toNat | _ => 0)) ⟨rfl, n', by omega, rfl, by simp [leN]⟩ ?_
      rintro x i h' ⟨rfl, k, hk, rfl, rfl⟩
      by_cases hk0 : k = 0
      · subst hk0
        simp (disch := omega)
        simpa using H
      · obtain ⟨m, rfl⟩ : ∃ m, k = m + 1 := ⟨k - 1, by omega⟩
        have hs := leN_step (l := l) (p := p') (n := n') (k := m + 1) (by omega) hk (by omega)
        have hb := leN_lt ((l.drop (p' + (m + 1))).take (n' - (m + 1)))
        have hb7 : leN ((l.drop (p' + (m + 1))).take (n' - (m + 1))) < 72057594037927936 := Nat.lt_of_lt_of_le hb (Nat.pow_le_pow_right (n := 256) (by omega) (show _ ≤ 7 by simp; omega))
        have hA' := hA (p' + m) (by omega)
        have hbb := byte_lt (l[p' + m]'(by omega))
        simp only [Nat.add_sub_cancel] at hs
        generalize leN ((l.drop (p' + (m + 1))).take (n' - (m + 1))) = X at *
        generalize l[p' + m]'(by omega) = b at *
        simp (disch := omega) [Hp_shl_u64, wrap_u64, hA', Hp_or_high 8]
        exact ⟨m, by omega, by omega, by rw [hs]; omega⟩
    · rw [if_neg hp] at H
      simp (disch := omega)
      exact H

theorem Value_c {v : Value} {l : List UInt8} (hB : Bytes h v l) (hl : l.length ≤ 8) (H : K (.int .u64 (leN l : Nat)) h) : CallsH Try.prog 54 #[v] h K ⟨⟩ := by
  refine n54_calls ?_
  unfold n54
  obtain ⟨o, c, rfl⟩ := hB.form
  simp (disch := omega)
  refine loop2 (fun x i h' => h' = h ∧ ∃ k : Nat, k ≤ l.length ∧ i = .int .i64 ((k : Int) - 1) ∧ x = .int .u64 (leN (l.drop k) : Nat)) (fun x i _ => (match i with | .int _ n => (n + 1).toNat | _ => 0)) ⟨rfl, l.length, by omega, rfl, by simp [leN]⟩ ?_
  rintro x i h' ⟨rfl, k, hk, rfl, rfl⟩
  by_cases hk0 : k = 0
  · subst hk0
    simp (disch := omega)
    simpa using H
  · obtain ⟨m, rfl⟩ : ∃ m, k = m + 1 := ⟨k - 1, by omega⟩
    obtain ⟨a, rfl, -, hc, hA⟩ := hB.at (by omega)
    have hA' := hA m (by omega)
    have hs : leN (l.drop m) = (l[m]'(by omega)).toNat + 256 * leN (l.drop (m + 1)) := by
      rw [List.drop_eq_getElem_cons (show m < l.length by omega), leN]
    have hb := leN_lt8 (l := l.drop m) (by simp; omega)
    have hbb := byte_lt (l[m]'(by omega))
    generalize leN (l.drop (m + 1)) = X at *
    generalize l[m]'(by omega) = b at *
    simp (disch := omega) [hA']
    exact ⟨m, by omega, by omega, by rw [hs]; omega⟩

theorem Number_c {x : Nat} {n : Int} (hx : x < 18446744073709551616) (hn : n < 1000000)
    (H : ∀ v' h', OwnS 1 h' v' ((leB n.toNat x).map byteV) → Ext h h' → (∀ b, blkV v' = some b → h.size ≤ b) → K v' h') : CallsH Try.prog 38 #[.int .u64 x, .int .i64 n] h K ⟨⟩ := by
  refine n38_calls ?_
  unfold n38
  refine loop3 (fun x' o i h' => ∃ k : Nat, (k : Int) ≤ max n 0 ∧ i = .int .i64 k ∧ x' = .int .u64 (x / 256 ^ k : Nat) ∧ OwnS 1 h' o ((leB k x).map byteV) ∧ Ext h h' ∧ (∀ b, blkV o = some b → h.size ≤ b))
    (fun x o i _ => (match i with | .int _ k => (n - k).toNat | _ => 0)) ⟨0, by omega, rfl, by simp, .nil, .refl _, fun b hb => by cases hb⟩ ?_
  rintro x' o i h' ⟨k, hk, rfl, rfl, hO, hE, hF⟩
  have hk2 : x / 256 ^ k < 18446744073709551616 := Nat.lt_of_le_of_lt (Nat.div_le_self _ _) hx
  by_cases hkn : (k : Int) < n
  · generalize hX : x / 256 ^ k = X at *
    simp (disch := omega)
    refine Hp_append (e := 5) (s := 1) (by_ := 1) (n := k) (k := 1) (by kernel_rfl) (by kernel_rfl) (hO.ext (push_ext (.refl _))) (by simp) (by omega) (.inr (.inl ⟨_, _, rfl, rfl, Seg_new rfl⟩)) (by simp [one]) (by omega) (by omega) ?_
    intro v' h'' hO' hM hF' _
    simp (disch := omega)
    refine ⟨⟨k + 1, by omega, by simp, ?_, ?_, ?_, ?_⟩, by omega⟩
    · have e : ((x / 256 ^ (k + 1) : Nat) : Int) = (X : Int) / 256 := by rw [Nat.pow_succ, ← Nat.div_div_eq_div_mul, hX]; omega
      simpa using e.symm
    · rw [leB_snoc, List.map_append, hX]
      have e : byteV (UInt8.ofNat (X % 256)) = .int .u8 ((X : Int) % 256) := by simp [byteV]
      simp only [List.map_cons, List.map_nil, e]; exact hO'
    · exact hM.ext_from (push_ext hE) (fun b hb hb' => by have := hF b hb'; omega)
    · intro b hb
      rcases hF' b hb with hb | hb
      · exact hF b hb
      · have := hE.size; simp at hb; omega
  · simp (disch := omega)
    have : k = n.toNat := by omega
    subst this
    exact H _ _ hO hE hF

/-- The error of writing a number. -/
def setE (len : Nat) (p n : Int) (x : Nat) : Int :=
  if n < 1 ∨ 8 < n then 2 else if 0 ≤ p ∧ n ≤ len ∧ p ≤ len - n then (if 256 ^ n.toNat ≤ x then 3 else 0) else 4

theorem pow256 (n : Nat) : 256 ^ n = 2 ^ (8 * n) := by rw [show 256 = 2 ^ 8 by decide, ← Nat.pow_mul]

theorem Set_c {v : Value} {l : List UInt8} {p n : Int} {x : Nat} (hB : Bytes h v l) (hl : l.length < 4611686018427387904) (hx : x < 18446744073709551616)
    (hf : ∀ a n c, v = .slice (some a) n c → ∀ i, i < l.length → hfrozen h (elt a i) = false)
    (H : setE l.length p n x ≠ 0 → K (.int .i64 (setE l.length p n x)) h)
    (H0 : setE l.length p n x = 0 → ∀ a c, v = .slice (some a) l.length c → p.toNat + n.toNat ≤ l.length → 0 ≤ p → 1 ≤ n → K (.int .i64 0) (hwrite h a p.toNat ((leB n.toNat x).map byteV))) : CallsH Try.prog 56 #[v, .int .i64 p, .int .i64 n, .int .u64 x] h K ⟨⟩ := by
  by_cases hn : n < 1 ∨ 8 < n
  · refine n56_calls ?_
    unfold n56
    unfold setE at H H0
    rw [if_pos hn] at H
    ((try (simp (disch := omega))); repeat' ((first | (refine Split.mk (fun _ => ?_) (fun _ => ?_))) <;> ((try (simp (disch := omega))))))
    all_goals exact H (by decide)
  obtain ⟨n', rfl⟩ := Int.eq_ofNat_of_zero_le (show 0 ≤ n by omega)
  by_cases hp : 0 ≤ p ∧ (n' : Int) ≤ l.length ∧ p ≤ l.length - n'
  · obtain ⟨p', rfl⟩ := Int.eq_ofNat_of_zero_le hp.1
    obtain ⟨o, c, rfl⟩ := hB.form
    obtain ⟨a, rfl, -, hc, hA⟩ := hB.at (by omega)
    refine n56_calls ?_
    unfold n56
    unfold setE at H H0
    rw [if_neg hn, if_pos hp] at H H0
    have hfr := hf a _ _ rfl
    simp only [Int.toNat_natCast] at H H0
    simp (disch := omega)
    refine lies_c hB hl (by omega) (fun _ => ?_) (fun h => absurd hp h)
    have hsh : (n' : Int) < 8 → ∀ y : Nat, (x : Int) / 2 ^ (8 * n') = 0 ↔ x < 256 ^ n' := fun _ _ => by
      rw [pow256]
      rw [show (x : Int) / 2 ^ (8 * n') = ((x / 2 ^ (8 * n') : Nat) : Int) by simp]
      rw [Int.natCast_eq_zero, Nat.div_eq_zero_iff]
      have := Nat.two_pow_pos (8 * n')
      omega
    have htn : (8 * (n' : Int)).toNat = 8 * n' := by omega
    by_cases hxs : 256 ^ n' ≤ x
    · rw [if_pos hxs] at H
      have h8 : n' < 8 := by
        rcases Nat.lt_or_ge n' 8 with h | h
        · exact h
        · have : (256 : Nat) ^ 8 ≤ 256 ^ n' := Nat.pow_le_pow_right (by omega) h
          omega
      have hne : ¬ (x : Int) / 2 ^ (8 * n') = 0 := fun e => by
        have := (hsh (by omega) x).1 e
        omega
      simp (disch := omega) [Hp_shr_u64, htn, hne]
      exact H (by decide)
    · rw [if_neg hxs] at H0
      have H0 := H0 rfl a c rfl (by omega) (by omega) (by omega)
      have he : n' < 8 → (x : Int) / 2 ^ (8 * n') = 0 := fun h8 => (hsh (by omega) x).2 (by omega)
      rcases Nat.lt_or_ge n' 8 with h8 | h8
      case' inl => simp (disch := omega) [Hp_shr_u64, htn, he h8]
      case' inr => simp (disch := omega) [Hp_shr_u64, htn]
      all_goals
        refine loop2 (fun y i h' => ∃ k : Nat, k ≤ n' ∧ i = .int .i64 k ∧ y = .int .u64 (x / 256 ^ k : Nat) ∧ h' = hwrite h a p' ((leB k x).map byteV)) (fun y i _ => (match i with | .int _ k => (n' - k).toNat | _ => 0)) ⟨0, by omega, rfl, by simp, rfl⟩ ?_
        rintro y i h' ⟨k, hk, rfl, rfl, rfl⟩
        by_cases hkn : k = n'
        · subst hkn
          simp (disch := omega)
          exact H0
        · have hc1 := hcell_write_out (a := a) (j := p' + k) ((leB k x).map byteV) h p' (by simp)
          have hc2 := hA (p' + k) (by omega)
          have hk2 : x / 256 ^ k < 18446744073709551616 := Nat.lt_of_le_of_lt (Nat.div_le_self _ _) hx
          have hsn := hwrite_snoc a (byteV (UInt8.ofNat (x / 256 ^ k % 256))) ((leB k x).map byteV) h p'
          have hfz := hfr (p' + k) (by omega)
          rw [hc2] at hc1
          have e2 : x / 256 ^ (k + 1) = x / 256 ^ k / 256 := by rw [Nat.pow_succ, ← Nat.div_div_eq_div_mul]
          have e3 : (leB (k + 1) x).map byteV = (leB k x).map byteV ++ [byteV (UInt8.ofNat (x / 256 ^ k % 256))] := by rw [leB_snoc]; simp
          have eb : byteV (UInt8.ofNat (x / 256 ^ k % 256)) = .int .u8 (((x / 256 ^ k : Nat) : Int) % 256) := by simp [byteV]
          generalize hX : x / 256 ^ k = X at *
          simp (disch := omega) [Try.cvw45_5, wrap_u8_eq, hc1, hfrozen_write, hfz, Hp_shr_u64, -Int.natCast_ediv, -Int.natCast_pow]
          refine ⟨⟨k + 1, by omega, by simp, by rw [e2]; omega, ?_⟩, by omega⟩
          rw [e3, hsn, eb]; simp
  · refine n56_calls ?_
    unfold n56
    unfold setE at H
    rw [if_neg hn, if_neg hp] at H
    simp (disch := omega)
    refine lies_c hB hl (by omega) (fun h => absurd h hp) (fun _ => ?_)
    simp (disch := omega)
    exact H (by decide)

end Go.Proofs.Ytgnmjcljljfldaa
