/- Contracts of layer 1's answers: texts; fields put behind one another. -/
import Derived.Test.YtmppolccfjfoaaaWire2
set_option linter.unusedSimpArgs false
set_option linter.unusedVariables false
namespace Go.Proofs.Ytmppolccfjfoaaa
open Go.Vc
variable {K : Value → Heap → Prop} {h : Heap}

theorem allZ_part {l : List UInt8} {i r : Nat} (hi : i < r) (hr : r ≤ l.length) : allZ ((l.take r).drop i) = (l[i]'(by omega) == 0 && allZ ((l.take r).drop (i + 1))) := by
  unfold allZ
  rw [List.drop_eq_getElem_cons (show i < (l.take r).length by simp; omega)]
  simp

theorem refText_c {v : Value} {l : List UInt8} {p m : Int} (hB : Bytes h v l) (hl : l.length < 4611686018427387904)
    (H : K (.tuple #[str (textR l p m).1, .int .i64 (textR l p m).2]) h) : CallsH Try.prog 29 #[v, .int .i64 p, .int .i64 m] h K ⟨⟩ := by
  unfold textR at H
  by_cases he : fieldE l.length p m = 0
  · rw [if_neg (by simpa using he)] at H
    have hb := fieldE_zero he
    obtain ⟨p', rfl⟩ := Int.eq_ofNat_of_zero_le hb.2.2.1
    obtain ⟨m', rfl⟩ := Int.eq_ofNat_of_zero_le hb.1
    simp only [Int.toNat_natCast] at H
    obtain ⟨o, c, rfl⟩ := hB.form
    obtain ⟨a, rfl, -, hc, hA⟩ := hB.at (by omega)
    have hb0 := leN_lt8 (l := (l.drop p').take 4) (by simp; omega)
    have hbX : Bytes h (.slice (some (sub a p' c)) 4 (c - p')) ((l.drop p').take 4) :=
      .inr ⟨_, c - p', by congr 1; simp; omega, by simp; omega, by have := hA.part p' (p' + 4) c (by omega) (by omega) hc; rwa [List.drop_take, Nat.add_sub_cancel_left] at this⟩
    have hval : ∀ {K : Value → Heap → Prop}, K (.int .u64 (leN ((l.drop p').take 4) : Nat)) h → CallsH Try.prog 68 #[.slice (some (sub a p' c)) 4 (c - p')] h K ⟨⟩ := fun hk => Value_c hbX (by simp; omega) hk
    generalize leN ((l.drop p').take 4) = X at *
    refine n29_calls ?_
    unfold n29
    refine Field_c hB hl ?_
    simp (disch := omega) [he]
    refine hval ?_
    by_cases hX : (m' : Int) < X
    · rw [if_pos hX] at H
      simp (disch := omega)
      exact H
    · rw [if_neg hX] at H
      simp (disch := omega)
      have hbm : Bytes h (.slice (some (sub a (p' + 4) c)) (p' + 4 + X - (p' + 4)) (c - (p' + 4))) ((l.take (p' + 4 + X)).drop (p' + 4)) :=
          .inr ⟨_, c - (p' + 4), by congr 1; simp; omega, by simp; omega, hA.part (p' + 4) (p' + 4 + X) c (by omega) (by omega) hc⟩
      refine loop1 (fun i h' => h' = h ∧ ∃ k : Nat, i = .int .i64 k ∧ p' + 4 + X ≤ k ∧ k ≤ p' + 4 + m' ∧ allZ ((l.take (p' + 4 + m')).drop (p' + 4 + X)) = allZ ((l.take (p' + 4 + m')).drop k)) (fun i _ => match i with | .int _ k => (p' + 4 + m' - k).toNat | _ => 0) ⟨rfl, p' + 4 + X, by simp, by omega, by omega, rfl⟩ ?_
      rintro i h' ⟨rfl, k, rfl, hk1, hk2, hz⟩
      by_cases hkm : k = p' + 4 + m'
      · subst hkm
        have hz' : allZ ((l.take (p' + 4 + m')).drop (p' + 4 + X)) = true := by rw [hz, List.drop_eq_nil_of_le (by simp; omega)]; rfl
        rw [if_pos hz'] at H
        have e2 : ((p' : Int) + 4 + X).toNat = p' + 4 + X := by omega
        have e3 : ((p' : Int) + 4).toNat = p' + 4 := by omega
        simp (disch := omega) [e2, e3, -Nat.add_sub_cancel_left, Try.cv39_9 hbm]
        simpa using H
      · have hAk := hA k (by omega)
        rw [allZ_part (i := k) (by omega) (by omega)] at hz
        by_cases h0 : l[k]'(by omega) = 0
        · rw [h0] at hAk hz
          simp (disch := omega) [hAk]
          exact ⟨⟨k + 1, by simp, by omega, by omega, by simpa using hz⟩, by omega⟩
        · have hne : ¬ ((l[k]'(by omega)).toNat : Int) = 0 := fun e => h0 (UInt8.toNat_inj.1 (by simpa using e))
          have hz' : ¬ allZ ((l.take (p' + 4 + m')).drop (p' + 4 + X)) = true := by rw [hz]; simp [h0]
          rw [if_neg hz'] at H
          simp (disch := omega) [hAk, hne]
          exact H
  · rw [if_pos he] at H
    refine n29_calls ?_
    unfold n29
    refine Field_c hB hl ?_
    simp (disch := omega) [he]
    exact H

theorem refSetText_c {v : Value} {l s : List UInt8} {p m : Int} (hB : Bytes h v l) (hl : l.length < 1000000000)
    (H : setTextE l.length p m s ≠ 0 → K (.tuple #[v, .int .i64 (setTextE l.length p m s)]) h)
    (H0 : ∀ v' h', Ext h h' → setTextE l.length p m s = 0 → Bytes h' v' (over l p.toNat (fieldB m.toNat s)) → (∀ b, blkV v' = some b → h.size ≤ b) → K (.tuple #[v', .int .i64 0]) h') : CallsH Try.prog 30 #[v, .int .i64 p, .int .i64 m, str s] h K ⟨⟩ := by
  unfold setTextE at H H0
  by_cases he : fieldE l.length p m = 0
  · rw [if_neg (by simpa using he)] at H H0
    have hb := fieldE_zero he
    obtain ⟨p', rfl⟩ := Int.eq_ofNat_of_zero_le hb.2.2.1
    obtain ⟨m', rfl⟩ := Int.eq_ofNat_of_zero_le hb.1
    simp only [Int.toNat_natCast] at H0
    obtain ⟨o, c, rfl⟩ := hB.form
    obtain ⟨a, rfl, -, hc, hA⟩ := hB.at (by omega)
    refine n30_calls ?_
    unfold n30
    refine Field_c hB (by omega) ?_
    by_cases hs : (m' : Int) < s.length
    · rw [if_pos hs] at H
      simp (disch := omega) [he]
      exact H (by decide)
    · rw [if_neg hs] at H0
      simp (disch := omega) [he]
      have hb1 : Bytes h (.slice (some a) p' c) (l.take p') := .inr ⟨a, c, by congr 1; simp; omega, by simp; omega, by simpa using hA.part 0 p' c (by omega) (by omega) hc⟩
      refine Hp_appB (e := 5) (l := []) (by kernel_rfl) (by kernel_rfl) .nil hb1 (by simp; omega) fun v2 h2 hO2 hM2 hF2 _ => ?_
      have hE2 : Ext h h2 := hM2.ext (fun b _ e => by cases e)
      have hlt2 : ∀ b, blkV v2 = some b → h.size ≤ b := fun b hb => (hF2 b hb).resolve_left (by rintro ⟨⟩)
      simp (disch := omega)
      refine Number_c (x := s.length) (by omega) (by omega) fun v3 h3 hO3 hE3 hF3 => ?_
      refine Hp_appB (e := 5) (by kernel_rfl) (by kernel_rfl) (hO2.ext hE3) hO3.bytes (by simp; omega) fun v4 h4 hO4 hM4 hF4 _ => ?_
      have hE4 : Ext h h4 := hM4.ext_from (hE2.trans hE3) (fun b hb hb' => by have := hlt2 b hb'; omega)
      have hlt4 : ∀ b, blkV v4 = some b → h.size ≤ b := fun b hb => (hF4 b hb).elim (hlt2 b) (fun hh => by have := (hE2.trans hE3).size; omega)
      refine Hp_appStr (e := 5) (by kernel_rfl) (by kernel_rfl) hO4 (by simp; omega) fun v5 h5 hO5 hM5 hF5 _ => ?_
      have hE5 : Ext h h5 := hM5.ext_from hE4 (fun b hb hb' => by have := hlt4 b hb'; omega)
      have hlt5 : ∀ b, blkV v5 = some b → h.size ≤ b := fun b hb => (hF5 b hb).elim (hlt4 b) (fun hh => by have := hE4.size; omega)
      have ek : ((m' : Int) - s.length) = ((m' - s.length : Nat) : Int) := by omega
      simp (disch := omega) only [Hp_sub_i64, ValI_iff, Try.len9, ek]
      refine Hp_appZB (e := 5) (by kernel_rfl) (by kernel_rfl) (by kernel_rfl) hO5 (by simp; omega) fun v6 h6 hO6 hM6 hF6 => ?_
      have hE6 : Ext h h6 := hM6.ext_from hE5 (fun b hb hb' => by have := hlt5 b hb'; omega)
      have hlt6 : ∀ b, blkV v6 = some b → h.size ≤ b := fun b hb => (hF6 b hb).elim (hlt5 b) (fun hh => by have := hE5.size; omega)
      have e1 : ((p' : Int) + 4 + m').toNat = p' + 4 + m' := by omega
      simp (disch := omega) [e1]
      have hb7 : Bytes h6 (.slice (some (sub a (p' + 4 + m') c)) (l.length - (p' + 4 + m')) (c - (p' + 4 + m'))) (l.drop (p' + 4 + m')) :=
        .inr ⟨_, _, by congr 1; simp, by simp; omega, by have := (hA.ext hE6).part (p' + 4 + m') l.length c (by omega) (by omega) hc; rwa [List.take_length] at this⟩
      refine Hp_appB (e := 5) (by kernel_rfl) (by kernel_rfl) hO6 hb7 (by simp; omega) fun v7 h7 hO7 hM7 hF7 _ => ?_
      have hE7 : Ext h h7 := hM7.ext_from hE6 (fun b hb hb' => by have := hlt6 b hb'; omega)
      refine H0 v7 h7 hE7 rfl ?_ (fun b hb => (hF7 b hb).elim (fun x => by have := hlt6 b x; omega) (fun x => by have := hE6.size; omega))
      have := hO7.bytes
      simp only [over, fieldB_length (show s.length ≤ m' by omega)]
      simpa [fieldB, List.append_assoc, Nat.add_assoc] using this
  · rw [if_pos he] at H
    refine n30_calls ?_
    unfold n30
    refine Field_c hB (by omega) ?_
    simp (disch := omega) [he]
    exact H he

/-- A slice of fields. -/
def Fields (h : Heap) (v : Value) (fs : List (List UInt8)) : Prop :=
  (v = .slice none 0 0 ∧ fs = []) ∨ ∃ a c, v = .slice (some a) fs.length c ∧ fs.length ≤ c ∧ ∀ (i : Nat) (hi : i < fs.length), ∃ u, hcell h (elt a i) = some u ∧ Bytes h u fs[i]

def total : List (List UInt8) → Nat
  | [] => 0
  | f :: fs => f.length + total fs
theorem total_append : ∀ (a b : List (List UInt8)), total (a ++ b) = total a + total b
  | [], b => by simp [total]
  | f :: a, b => by simp [total, total_append a b, Nat.add_assoc]
theorem flatten_length : ∀ (a : List (List UInt8)), a.flatten.length = total a
  | [] => rfl
  | f :: a => by simp [total, flatten_length a]
theorem total_take (fs : List (List UInt8)) (k : Nat) : total (fs.take k) ≤ total fs := by
  conv => rhs; rw [← List.take_append_drop k fs]
  rw [total_append]; omega

theorem Fields.ext {h' : Heap} {v : Value} {fs : List (List UInt8)} (f : Fields h v fs) (e : Ext h h') : Fields h' v fs := by
  rcases f with f | ⟨a, c, h1, h2, h3⟩
  · exact .inl f
  · exact .inr ⟨a, c, h1, h2, fun i hi => let ⟨u, hu, hb⟩ := h3 i hi; ⟨u, hcell_ext e hu, hb.ext e⟩⟩

theorem Join_c {v : Value} {fs : List (List UInt8)} (hF : Fields h v fs) (ht : total fs < 70368744177664) (hl : fs.length < 4611686018427387904)
    (H : ∀ v' h', OwnS 1 h' v' (fs.flatten.map byteV) → Ext h h' → (∀ b, blkV v' = some b → h.size ≤ b) → K v' h') : CallsH Try.prog 32 #[v] h K ⟨⟩ := by
  rcases hF with ⟨rfl, rfl⟩ | ⟨a, c, rfl, hc, hA⟩
  · refine n32_calls ?_
    unfold n32
    simp (disch := omega)
    refine loop2 (fun o i h' => h' = h ∧ o = .slice none 0 0 ∧ i = .int .i64 0) (fun _ _ _ => 0) ⟨rfl, rfl, rfl⟩ ?_
    rintro o i h' ⟨rfl, rfl, rfl⟩
    simp (disch := omega)
    exact H _ _ .nil (.refl _) (fun b hb => by cases hb)
  · refine n32_calls ?_
    unfold n32
    simp (disch := omega)
    refine loop2 (fun o i h' => ∃ k : Nat, k ≤ fs.length ∧ i = .int .i64 k ∧ OwnS 1 h' o ((fs.take k).flatten.map byteV) ∧ Ext h h' ∧ (∀ b, blkV o = some b → h.size ≤ b))
      (fun _ i _ => match i with | .int _ k => (fs.length - k).toNat | _ => 0) ⟨0, by omega, rfl, .nil, .refl _, fun b hb => by cases hb⟩ ?_
    rintro o i h' ⟨k, hk, rfl, hO, hE, hF⟩
    by_cases hkn : k = fs.length
    · subst hkn
      simp (disch := omega)
      rw [List.take_length] at hO
      exact H _ _ hO hE hF
    · obtain ⟨u, hu, hb⟩ := hA k (by omega)
      have hu' := hcell_ext hE hu
      simp (disch := omega) [hu']
      have h1 := flatten_length (fs.take k)
      have h2 := total_take fs (k + 1)
      rw [List.take_succ_eq_append_getElem (by omega), total_append] at h2
      simp only [total, Nat.add_zero] at h2
      refine Hp_appB (e := 5) (l := (fs.take k).flatten) (by kernel_rfl) (by kernel_rfl) hO (hb.ext hE) (by omega) fun v2 h2 hO2 hM2 hF2 _ => ?_
      simp (disch := omega) [-List.map_flatten]
      refine ⟨⟨k + 1, by omega, by simp, ?_, hM2.ext_from hE (fun b hb hb' => by have := hF b hb'; omega), fun b hb => (hF2 b hb).elim (hF b) (fun x => by have := hE.size; omega)⟩, by omega⟩
      have e : (fs.take (k + 1)).flatten = (fs.take k).flatten ++ fs[k] := by
        rw [List.take_succ_eq_append_getElem (by omega)]
        simp only [List.flatten_append, List.flatten_cons, List.flatten_nil, List.append_nil]
      rw [e]; exact hO2
end Go.Proofs.Ytmppolccfjfoaaa
