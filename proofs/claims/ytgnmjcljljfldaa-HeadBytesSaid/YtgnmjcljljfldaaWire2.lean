/- Contracts of layer 1: texts, noughts, fields. -/
import Derived.Test.YtgnmjcljljfldaaWire
set_option linter.unusedSimpArgs false
set_option linter.unusedVariables false
namespace Go.Proofs.Ytgnmjcljljfldaa
open Go.Vc
variable {K : Value → Heap → Prop} {h : Heap}

def allZ (l : List UInt8) : Bool := l.all (· == 0)

/-- Are bytes noughts? And the error. -/
def noughtR (l : List UInt8) (f u : Int) : Bool × Int :=
  if f < 0 ∨ u < f ∨ l.length < u then (false, 4) else (allZ ((l.take u.toNat).drop f.toNat), 0)

theorem allZ_take {l : List UInt8} {k : Nat} (hk : k < l.length) (hz : allZ (l.take k) = true) (h0 : l[k] = 0) : allZ (l.take (k + 1)) = true := by
  unfold allZ at *
  rw [List.take_succ_eq_append_getElem hk, List.all_append, hz, h0]; rfl
theorem allZ_false {l : List UInt8} {k : Nat} (hk : k < l.length) (h0 : ¬ l[k] = 0) : allZ l = false := by
  unfold allZ
  rw [List.all_eq_false]
  exact ⟨l[k], List.getElem_mem hk, by simpa using h0⟩

theorem Noughts_c {v : Value} {l : List UInt8} {f u : Int} (hB : Bytes h v l) (hl : l.length < 4611686018427387904)
    (H : K (.tuple #[.bool (noughtR l f u).1, .int .i64 (noughtR l f u).2]) h) : CallsH Try.prog 86 #[v, .int .i64 f, .int .i64 u] h K ⟨⟩ := by
  unfold noughtR at H
  by_cases hb : f < 0 ∨ u < f ∨ l.length < u
  · obtain ⟨o, c, rfl⟩ := hB.form
    refine n86_calls ?_
    unfold n86
    rw [if_pos hb] at H
    ((try (simp (disch := omega))); repeat' ((first | (refine Split.mk (fun _ => ?_) (fun _ => ?_))) <;> ((try (simp (disch := omega))))))
    all_goals first | exact H | (exfalso; omega)
  · rw [if_neg hb] at H
    obtain ⟨f', rfl⟩ := Int.eq_ofNat_of_zero_le (show 0 ≤ f by omega)
    obtain ⟨u', rfl⟩ := Int.eq_ofNat_of_zero_le (show 0 ≤ u by omega)
    simp only [Int.toNat_natCast] at H
    rcases hB with ⟨rfl, rfl⟩ | ⟨a, c, rfl, hc, hA⟩
    · refine n86_calls ?_
      unfold n86
      simp only [List.length_nil] at hb
      simp (disch := omega)
      refine JoinN.mk ?_
      simp (disch := omega)
      refine JoinN.mk ?_
      refine loop2 (fun x i h' => h' = h ∧ x = .bool true ∧ i = .int .i64 0) (fun _ _ _ => 0) ⟨rfl, rfl, rfl⟩ ?_
      rintro x i h' ⟨rfl, rfl, rfl⟩
      simp (disch := omega)
      simpa [allZ] using H
    · have hA2 := hA.part f' u' c (by omega) (by omega) hc
      have hlen : ((l.take u').drop f').length = u' - f' := by simp; omega
      generalize hm : (l.take u').drop f' = m at *
      refine n86_calls ?_
      unfold n86
      simp (disch := omega)
      refine JoinN.mk ?_
      simp (disch := omega)
      refine JoinN.mk ?_
      refine loop2 (fun x i h' => h' = h ∧ x = .bool true ∧ ∃ k : Nat, i = .int .i64 k ∧ k ≤ m.length ∧ allZ (m.take k) = true) (fun _ i _ => match i with | .int _ k => (m.length - k).toNat | _ => 0) ⟨rfl, rfl, 0, rfl, by omega, by simp [allZ]⟩ ?_
      rintro x i h' ⟨rfl, rfl, k, rfl, hk, hz⟩
      by_cases hkm : k = m.length
      · subst hkm
        simp (disch := omega)
        rw [List.take_length] at hz
        rw [hz] at H
        exact H
      · have hAk := hA2 k (by omega)
        by_cases h0 : m[k]'(by omega) = 0
        · have hz' := allZ_take (by omega) hz h0
          rw [h0] at hAk
          simp (disch := omega) [hAk]
          exact ⟨⟨k + 1, by simp, by omega, hz'⟩, by omega⟩
        · have hf := allZ_false (by omega) h0
          have hne : ¬ ((m[k]'(by omega)).toNat : Int) = 0 := fun e => h0 (UInt8.toNat_inj.1 (by simpa using e))
          rw [hf] at H
          simp (disch := omega) [hAk, hne]
          exact H

/-- The error of a field. -/
def fieldE (len : Nat) (p m : Int) : Int :=
  if m < 0 ∨ 1048576 < m then 2 else if 0 ≤ p ∧ 4 + m ≤ len ∧ p ≤ len - (4 + m) then 0 else 4

theorem field_c {v : Value} {l : List UInt8} {p m : Int} (hB : Bytes h v l) (hl : l.length < 4611686018427387904)
    (H : K (.int .i64 (fieldE l.length p m)) h) : CallsH Try.prog 85 #[v, .int .i64 p, .int .i64 m] h K ⟨⟩ := by
  refine n85_calls ?_
  unfold n85
  unfold fieldE at H
  by_cases hm : m < 0 ∨ 1048576 < m
  · rw [if_pos hm] at H
    ((try (simp (disch := omega))); repeat' ((first | (refine Split.mk (fun _ => ?_) (fun _ => ?_))) <;> ((try (simp (disch := omega))))))
    all_goals exact H
  · rw [if_neg hm] at H
    simp (disch := omega)
    refine lies_c hB hl (by omega) (fun hp => ?_) (fun hp => ?_)
    · rw [if_pos hp] at H
      simp (disch := omega)
      exact H
    · rw [if_neg hp] at H
      simp (disch := omega)
      exact H
/-- A text that is read, and the error. -/
def textR (l : List UInt8) (p m : Int) : List UInt8 × Int :=
  if fieldE l.length p m ≠ 0 then ([], fieldE l.length p m) else
  if m < leN ((l.drop p.toNat).take 4) then ([], 110) else
  if allZ ((l.take (p.toNat + 4 + m.toNat)).drop (p.toNat + 4 + leN ((l.drop p.toNat).take 4))) then ((l.take (p.toNat + 4 + leN ((l.drop p.toNat).take 4))).drop (p.toNat + 4), 0) else ([], 110)

theorem fieldE_zero {len : Nat} {p m : Int} (e : fieldE len p m = 0) : 0 ≤ m ∧ m ≤ 1048576 ∧ 0 ≤ p ∧ 4 + m ≤ len ∧ p ≤ len - (4 + m) := by
  unfold fieldE at e
  split at e
  · omega
  · split at e
    · omega
    · omega

theorem Text_c {v : Value} {l : List UInt8} {p m : Int} (hB : Bytes h v l) (hl : l.length < 4611686018427387904)
    (H : K (.tuple #[str (textR l p m).1, .int .i64 (textR l p m).2]) h) : CallsH Try.prog 51 #[v, .int .i64 p, .int .i64 m] h K ⟨⟩ := by
  unfold textR at H
  by_cases he : fieldE l.length p m = 0
  · rw [if_neg (by simpa using he)] at H
    have hb := fieldE_zero he
    obtain ⟨p', rfl⟩ := Int.eq_ofNat_of_zero_le hb.2.2.1
    obtain ⟨m', rfl⟩ := Int.eq_ofNat_of_zero_le hb.1
    simp only [Int.toNat_natCast] at H
    have hg : getR l p' 4 = (leN ((l.drop p').take 4), 0) := by
      unfold getR
      rw [if_neg (by omega), if_pos (by omega)]; simp
    have hb0 := leN_lt8 (l := (l.drop p').take 4) (by simp; omega)
    generalize leN ((l.drop p').take 4) = X at *
    refine n51_calls ?_
    unfold n51
    refine field_c hB hl ?_
    simp (disch := omega) [he]
    refine Get_c hB hl ?_
    rw [hg]
    by_cases hX : (m' : Int) < X
    · rw [if_pos hX] at H
      simp (disch := omega)
      exact H
    · rw [if_neg hX] at H
      simp (disch := omega)
      refine Noughts_c hB hl ?_
      unfold noughtR
      rw [if_neg (by omega)]
      have e1 : ((p' : Int) + 4 + m').toNat = p' + 4 + m' := by omega
      have e2 : ((p' : Int) + 4 + X).toNat = p' + 4 + X := by omega
      have e3 : ((p' : Int) + 4).toNat = p' + 4 := by omega
      rw [e1, e2]
      cases hz : allZ ((l.take (p' + 4 + m')).drop (p' + 4 + X)) with
      | false =>
        rw [hz] at H
        simp (disch := omega)
        exact H
      | true =>
        rw [hz] at H
        obtain ⟨o, c, rfl⟩ := hB.form
        obtain ⟨a, rfl, -, hc, hA⟩ := hB.at (by omega)
        have hb4 : Bytes h (.slice (some (sub a (p' + 4) c)) (p' + 4 + X - (p' + 4)) (c - (p' + 4))) ((l.take (p' + 4 + X)).drop (p' + 4)) :=
          .inr ⟨_, c - (p' + 4), by congr 1; simp; omega, by simp; omega, hA.part (p' + 4) (p' + 4 + X) c (by omega) (by omega) hc⟩
        simp (disch := omega) [e2, e3, -Nat.add_sub_cancel_left, Try.cv26_9 hb4]
        simpa using H
  · rw [if_pos he] at H
    refine n51_calls ?_
    unfold n51
    refine field_c hB hl ?_
    simp (disch := omega) [he]
    exact H

/-- A text's field, whole. -/
def fieldB (m : Nat) (s : List UInt8) : List UInt8 := leB 4 s.length ++ (s ++ List.replicate (m - s.length) 0)
theorem fieldB_length {m : Nat} {s : List UInt8} (h : s.length ≤ m) : (fieldB m s).length = 4 + m := by simp [fieldB]; omega

def setTextE (len : Nat) (p m : Int) (s : List UInt8) : Int :=
  if fieldE len p m ≠ 0 then fieldE len p m else if m < s.length then 3 else 0

theorem SetText_c {v : Value} {l s : List UInt8} {p m : Int} (hB : Bytes h v l) (hl : l.length < 4611686018427387904)
    (hf : ∀ a n c, v = .slice (some a) n c → ∀ i, i < l.length → hfrozen h (elt a i) = false)
    (H : setTextE l.length p m s ≠ 0 → K (.int .i64 (setTextE l.length p m s)) h)
    (H0 : setTextE l.length p m s = 0 → ∀ a c, v = .slice (some a) l.length c → 0 ≤ p → s.length ≤ m → p.toNat + 4 + m.toNat ≤ l.length → K (.int .i64 0) (hwrite h a p.toNat ((fieldB m.toNat s).map byteV))) :
    CallsH Try.prog 57 #[v, .int .i64 p, .int .i64 m, str s] h K ⟨⟩ := by
  unfold setTextE at H H0
  by_cases he : fieldE l.length p m = 0
  · rw [if_neg (by simpa using he)] at H H0
    have hb := fieldE_zero he
    obtain ⟨p', rfl⟩ := Int.eq_ofNat_of_zero_le hb.2.2.1
    obtain ⟨m', rfl⟩ := Int.eq_ofNat_of_zero_le hb.1
    simp only [Int.toNat_natCast] at H0
    obtain ⟨o, c, rfl⟩ := hB.form
    obtain ⟨a, rfl, -, hc, hA⟩ := hB.at (by omega)
    refine n57_calls ?_
    unfold n57
    refine field_c hB hl ?_
    by_cases hs : (m' : Int) < s.length
    · rw [if_pos hs] at H
      simp (disch := omega) [he]
      exact H (by decide)
    · rw [if_neg hs] at H0
      have H0 := H0 rfl a c rfl (by omega) (by omega) (by omega)
      have hfr := hf a _ _ rfl
      simp (disch := omega) [he]
      have hE : setE l.length p' 4 s.length = 0 := by
        unfold setE
        rw [if_neg (by omega), if_pos (by omega), if_neg (by
          have : (256 : Nat) ^ (4 : Int).toNat = 4294967296 := by decide
          omega)]
      refine Set_c (x := s.length) hB hl (by omega) hf (fun h => absurd hE h) (fun _ a' c' ea h1 h2 h3 => ?_)
      cases ea
      have e1 : ((p' : Int) + 4).toNat = p' + 4 := by omega
      have e2 : ((p' : Int) + 4 + m').toNat = p' + 4 + m' := by omega
      simp (disch := omega) [e1, e2]
      have hlen : p' + 4 + m' - (p' + 4) = m' := by omega
      refine Hp_clear (e := 5) (by_ := 1) (z := .int .u8 0) (by kernel_rfl) (by kernel_rfl) rfl (fun i hi => ?_) (fun i hi => ?_) ?_
      · rw [elt_sub (by omega)]
        exact hcell_write_some _ _ _ (by rw [hA (p' + 4 + i) (by omega)]; rfl)
      · rw [elt_sub (by omega), hfrozen_write]
        exact hfr _ (by omega)
      refine Hp_copy (by kernel_rfl) (Src.str (l := s)) (one_bytes s) (fun i hi => ?_) (fun i hi => ?_) ?_
      · exact hcell_write_some _ _ _ (by
          rw [elt_sub (by omega)]
          exact hcell_write_some _ _ _ (by rw [hA (p' + 4 + i) (by omega)]; rfl))
      · rw [hfrozen_write, hfrozen_write, elt_sub (by omega)]
        exact hfr _ (by omega)
      have hh : hwrite (hwrite (hwrite h a p' ((leB 4 s.length).map byteV)) (sub a (p' + 4) c) 0 (List.replicate m' (.int .u8 0))) (sub a (p' + 4) c) 0 ((s.map byteV).take m') = hwrite h a p' ((fieldB m' s).map byteV) := by
        rw [List.take_of_length_le (by simp; omega)]
        by_cases hm : m' = 0
        · subst hm
          have : s = [] := List.eq_nil_of_length_eq_zero (by omega)
          subst this
          simp [fieldB, hwrite]
        · rw [hwrite_over _ _ _ _ _ (by simp; omega), hwrite_sub (by omega)]
          have := hwrite_append a ((leB 4 s.length).map byteV) ((s.map byteV) ++ (List.replicate m' (.int .u8 0)).drop (s.map byteV).length) h p'
          simp only [List.length_map, leB_length, Nat.add_zero] at this ⊢
          rw [this]
          simp [fieldB, byteV]
      have e4 : ((p' : Int)).toNat = p' := by omega
      have e5 : (4 : Int).toNat = 4 := rfl
      simp only [e4, e5, hlen] at hh ⊢
      rw [hh]
      exact H0
  · rw [if_pos he] at H
    refine n57_calls ?_
    unfold n57
    refine field_c hB hl ?_
    simp (disch := omega) [he]
    exact H he
end Go.Proofs.Ytgnmjcljljfldaa
