/- Tables of entries: writing one. -/
import Derived.Test.YtmppolccfjfoaaaEntry5
set_option linter.unusedSimpArgs false
set_option linter.unusedVariables false
namespace Go.Proofs.Ytmppolccfjfoaaa
open Go.Vc
variable {K : Value → Heap → Prop} {h : Heap}

/-- The error of writing an entry into a table of so many bytes. -/
def putE (len : Nat) (i k p n b : Int) : Int := if ¬ MayE k p n b then 2 else if i < 0 ∨ len / 8 ≤ i then 4 else 0

theorem putE_zero {len : Nat} {i k p n b : Int} (e : putE len i k p n b = 0) : MayE k p n b ∧ 0 ≤ i ∧ i < len / 8 := by
  unfold putE at e
  split at e
  · omega
  · rename_i hm
    split at e
    · omega
    · exact ⟨by simpa using hm, by omega, by omega⟩

theorem setE8 {len i : Nat} {x : Nat} (hi : i < len / 8) (hx : x < 18446744073709551616) : setE len (8 * i) 8 x = 0 := by
  unfold setE
  rw [show 256 ^ (8 : Int).toNat = 18446744073709551616 by decide]
  rw [if_neg (by omega), if_pos (by omega), if_neg (by omega)]

theorem PutO_c {B m c j : Nat} {L : List UInt8} {i k p n b : Int} (hO : OwnS 1 h (.slice (some ⟨B, 0, none⟩) m c) (L.map byteV)) (hj : j ≤ L.length) (hl : L.length < 4611686018427387904)
    (hn : -9223372036854775808 ≤ n ∧ n < 9223372036854775808)
    (H : ∀ h', Ext h h' → putE j i k p n b ≠ 0 → K (.int .i64 (putE j i k p n b)) h')
    (H0 : ∀ h1 h', Ext h h1 → putE j i k p n b = 0 → OwnS 1 h' (.slice (some ⟨B, 0, none⟩) m c) ((over L (8 * i.toNat) (leB 8 (wordE k p n).toNat)).map byteV) → Mod (· = B) h1 h' → K (.int .i64 0) h') :
    CallsH Try.prog 37 #[.slice (some ⟨B, 0, none⟩) j c, .int .i64 i, .agg #[.int .i64 k, .int .i64 p, .int .i64 n], .int .i64 b] h K ⟨⟩ := by
  have hE0 : Ext h (h.push (.cells #[.int .i64 k, .int .i64 p, .int .i64 n] 24)) := push_ext (.refl h)
  by_cases hm : MayE k p n b
  · have bd := wordE_inv hm rfl
    obtain ⟨w, hw⟩ := Int.eq_ofNat_of_zero_le bd.1
    by_cases hi : i < 0 ∨ (j : Int) / 8 ≤ i
    · have hp : putE j i k p n b = 4 := by unfold putE; rw [if_neg (by simpa using hm), if_pos hi]
      rw [hp] at H
      refine n37_calls ?_
      unfold n37
      simp (disch := omega)
      refine Word_c hn (fun h' e m => ?_) (fun h' e m => absurd hm m)
      have hE := hE0.trans e
      by_cases h0 : i < 0
      · simp (disch := omega) [h0]
        exact H _ hE (by decide)
      · simp (disch := omega) [h0]
        exact H _ hE (by decide)
    · have hp : putE j i k p n b = 0 := by unfold putE; rw [if_neg (by simpa using hm), if_neg hi]
      rw [hp] at H0
      obtain ⟨i', rfl⟩ := Int.eq_ofNat_of_zero_le (show 0 ≤ i by omega)
      simp only [Int.toNat_natCast] at H0
      have hs := setE8 (len := j) (i := i') (x := w) (by omega) (by omega)
      have t1 : ((8 : Int) * i').toNat = 8 * i' := by omega
      rw [hw] at H0 bd
      simp only [Int.toNat_natCast] at H0
      refine n37_calls ?_
      unfold n37
      simp (disch := omega)
      refine Word_c hn (fun h' e m => ?_) (fun h' e m => absurd hm m)
      rw [hw]
      have hE := hE0.trans e
      simp (disch := omega)
      refine SetO_c (hO.ext hE) hj hl (by omega) (fun he => absurd hs he) (fun h2 _ hO2 hM2 _ => ?_)
      rw [t1] at hO2
      exact H0 _ _ hE trivial hO2 hM2
  · have hp : putE j i k p n b = 2 := by unfold putE; rw [if_pos hm]
    rw [hp] at H
    refine n37_calls ?_
    unfold n37
    simp (disch := omega)
    refine Word_c hn (fun h' e m => absurd m hm) (fun h' e m => ?_)
    simp (disch := omega)
    exact H _ (hE0.trans e) (by decide)

theorem ERefPut_c {v : Value} {l : List UInt8} {i k p n b : Int} (hB : Bytes h v l) (hl : l.length < 1000000)
    (H : ∀ h', Ext h h' → putE l.length i k p n b ≠ 0 → K (.tuple #[v, .int .i64 (putE l.length i k p n b)]) h')
    (H0 : ∀ v' h', Ext h h' → putE l.length i k p n b = 0 → Bytes h' v' (over l (8 * i.toNat) (leB 8 (wordE k p n).toNat)) → (∀ b, blkV v' = some b → h.size ≤ b) → K (.tuple #[v', .int .i64 0]) h') :
    CallsH Try.prog 36 #[v, .int .i64 i, .agg #[.int .i64 k, .int .i64 p, .int .i64 n], .int .i64 b] h K ⟨⟩ := by
  have hE0 : Ext h (h.push (.cells #[.int .i64 k, .int .i64 p, .int .i64 n] 24)) := push_ext (.refl h)
  obtain ⟨o, c, rfl⟩ := hB.form
  by_cases hm : MayE k p n b
  · have bd := wordE_inv hm rfl
    obtain ⟨w, hw⟩ := Int.eq_ofNat_of_zero_le bd.1
    by_cases hi : i < 0 ∨ (l.length : Int) / 8 ≤ i
    · have hp : putE l.length i k p n b = 4 := by unfold putE; rw [if_neg (by simpa using hm), if_pos hi]
      rw [hp] at H
      refine n36_calls ?_
      unfold n36
      simp (disch := omega)
      refine May_c (fun h' e m => ?_) (fun h' e m => absurd hm m)
      have hE := hE0.trans e
      by_cases h0 : i < 0
      · simp (disch := omega) [h0]
        exact H _ hE (by decide)
      · simp (disch := omega) [h0]
        exact H _ hE (by decide)
    · have hp : putE l.length i k p n b = 0 := by unfold putE; rw [if_neg (by simpa using hm), if_neg hi]
      rw [hp] at H0
      obtain ⟨i', rfl⟩ := Int.eq_ofNat_of_zero_le (show 0 ≤ i by omega)
      simp only [Int.toNat_natCast] at H0
      have t1 : ((8 : Int) * i').toNat = 8 * i' := by omega
      have t2 : ((8 : Int) * i' + 8).toNat = 8 * i' + 8 := by omega
      rw [hw] at H0 bd
      simp only [Int.toNat_natCast] at H0
      obtain ⟨a, rfl, -, hc, hA⟩ := hB.at (by omega)
      refine n36_calls ?_
      unfold n36
      simp (disch := omega)
      refine May_c (fun h1 e1 m => ?_) (fun h' e m => absurd hm m)
      have hE1 := hE0.trans e1
      have hb1 : Bytes h1 (.slice (some a) (8 * i') c) (l.take (8 * i')) := .inr ⟨a, c, by congr 1; simp; omega, by simp; omega, by simpa using (hA.ext hE1).part 0 (8 * i') c (by omega) (by omega) hc⟩
      have ce1 := ext_cell e1 rfl; have fe1 := ext_frz e1 rfl; have se1 := (e1).size; (try simp only [Array.size_push, hset_size] at ce1); (try simp only [Array.size_push, hset_size] at fe1); (try simp only [Array.size_push, hset_size] at se1)
      simp (disch := omega) [t1, ce1, fe1]
      refine Hp_appB (e := 5) (l := []) (by kernel_rfl) (by kernel_rfl) .nil hb1 (by simp; omega) fun v2 h2 hO2 hM2 hF2 _ => ?_
      have hE12 : Ext h1 h2 := hM2.ext (fun b _ e => by cases e)
      have hE2 : Ext h h2 := hE1.trans hE12
      have hlt2 : ∀ b, blkV v2 = some b → h.size ≤ b := fun b hb => Nat.le_trans hE1.size ((hF2 b hb).resolve_left (by rintro ⟨⟩))
      have ee2 : Ext (h.push (.cells #[.int .i64 k, .int .i64 p, .int .i64 n] 24)) h2 := e1.trans hE12
      have cee2 := ext_cell ee2 rfl; have fee2 := ext_frz ee2 rfl; have see2 := (ee2).size; (try simp only [Array.size_push, hset_size] at cee2); (try simp only [Array.size_push, hset_size] at fee2); (try simp only [Array.size_push, hset_size] at see2)
      simp (disch := omega) [cee2, fee2]
      refine RefWord_c hm (fun h3 e3 => ?_)
      rw [hw]
      refine Number_c (x := w) (n := 8) (by omega) (by omega) fun v4 h4 hO4 hE4 hF4 => ?_
      have e24 := e3.trans hE4
      refine Hp_appB (e := 5) (by kernel_rfl) (by kernel_rfl) (hO2.ext e24) hO4.bytes (by simp; omega) fun v5 h5 hO5 hM5 hF5 _ => ?_
      have hE5 : Ext h h5 := hM5.ext_from (hE2.trans e24) (fun b hb hb' => by have := hlt2 b hb'; omega)
      have hlt5 : ∀ b, blkV v5 = some b → h.size ≤ b := fun b hb => (hF5 b hb).elim (hlt2 b) (fun hh => by have := (hE2.trans e24).size; omega)
      have hb7 : Bytes h5 (.slice (some (sub a (8 * i' + 8) c)) (l.length - (8 * i' + 8)) (c - (8 * i' + 8))) (l.drop (8 * i' + 8)) :=
        .inr ⟨_, _, by congr 1; simp, by simp; omega, by have := (hA.ext hE5).part (8 * i' + 8) l.length c (by omega) (by omega) hc; rwa [List.take_length] at this⟩
      simp (disch := omega) [t2]
      refine Hp_appB (e := 5) (by kernel_rfl) (by kernel_rfl) hO5 hb7 (by simp; omega) fun v7 h7 hO7 hM7 hF7 _ => ?_
      have hE7 : Ext h h7 := hM7.ext_from hE5 (fun b hb hb' => by have := hlt5 b hb'; omega)
      refine H0 v7 h7 hE7 trivial ?_ (fun b hb => (hF7 b hb).elim (fun x => by have := hlt5 b x; omega) (fun x => by have := hE5.size; omega))
      have := hO7.bytes
      simpa [over, List.append_assoc] using this
  · have hp : putE l.length i k p n b = 2 := by unfold putE; rw [if_pos hm]
    rw [hp] at H
    refine n36_calls ?_
    unfold n36
    simp (disch := omega)
    refine May_c (fun h' e m => absurd m hm) (fun h' e m => ?_)
    simp (disch := omega)
    exact H _ (hE0.trans e) (by decide)
end Go.Proofs.Ytmppolccfjfoaaa
