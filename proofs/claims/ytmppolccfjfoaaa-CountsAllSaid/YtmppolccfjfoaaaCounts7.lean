/- Counts: the reference's other width. -/
import Derived.Test.YtmppolccfjfoaaaCounts6
set_option linter.unusedSimpArgs false
set_option linter.unusedVariables false
namespace Go.Proofs.Ytmppolccfjfoaaa
open Go.Vc
variable {K : Value → Heap → Prop} {h : Heap}

theorem RefWiden_c {v : Value} {l : List UInt8} {o t : Int} (hB : Bytes h v l) (hl : l.length < 100000) (hw0 : wd o ≠ 0) (hwt : wd t ≠ 0)
    (H : ∀ v' h', Ext h h' → Bytes h' v' (widenR l o t).1 → K (.tuple #[v', .int .i64 (widenR l o t).2]) h') :
    CallsH Try.prog 56 #[v, .int .i64 o, .int .i64 t] h K ⟨⟩ := by
  have hw : ¬ (wd o = 0 ∨ wd t = 0) := by omega
  have hwtp := wok_pos (wok_wd hwt)
  have hmb := many_bd l.length o
  obtain ⟨M, hM⟩ : ∃ M, M = many l.length o * wd t := ⟨_, rfl⟩
  have hMi : (many l.length o : Int) * (wd t : Int) = M := by rw [hM]; push_cast; rfl
  have hMb : M ≤ 8 * l.length * 64 := by rw [hM]; exact Nat.mul_le_mul hmb hwtp.2
  have hN : wN l.length o t = (M + 7) / 8 := by unfold wN; rw [hM]
  generalize hNN : wN l.length o t = N at *
  have tN : (((M : Int) + 7) / 8).toNat = N := by omega
  have hpos := Nat.pow_pos (n := wd t) (show 0 < 2 by omega)
  have hQl : 2 ^ wd t - 1 < 2 ^ wd t := by omega
  have hQ64 := two64 hwtp.2 hQl
  obtain ⟨q, q0, rfl⟩ := hB.form
  refine n56_calls ?_
  unfold n56
  refine RefMany_c hB (by omega) hw0 (RefWidth_c ?_)
  simp (disch := omega) [hMi, tN, zerosV]
  have hO0 : Bytes (h.push (.cells (Array.replicate N (Value.int .u8 0)) 5)) (.slice (some ⟨h.size, 0, none⟩) N N) (List.replicate N (0 : UInt8)) := by
    have h1 : OwnS 1 (h.push (.cells ((List.replicate N (0 : UInt8)).map byteV).toArray 5)) (.slice (some ⟨h.size, 0, none⟩) N N) ((List.replicate N (0 : UInt8)).map byteV) := OwnS_new rfl (by simp)
    have h2 : ((List.replicate N (0 : UInt8)).map byteV).toArray = Array.replicate N (Value.int .u8 0) := by simp [byteV]
    rw [h2] at h1
    exact h1.bytes
  refine loopA2 (fun a : Value × Nat => a.1) (fun a => .int .i64 a.2) (fun a h' => Ext h h' ∧ a.2 ≤ many l.length o ∧ Bytes h' a.1 (wL l (wd o) (wd t) N a.2) ∧ ∀ j, j < a.2 → cnt l (wd o) j < 2 ^ wd t) (fun a => many l.length o - a.2) (_, 0) ⟨rfl, rfl⟩ ⟨(by repeat' (first | (with_reducible exact Ext.refl _) | (with_reducible assumption) | (with_reducible refine push_ext ?_) | (with_reducible refine hset_ext ?_ ?_) | (with_reducible refine Ext.trans ?_ (by assumption)) | omega | (simp; done) | (simp; omega) | (refine Ext.size ?_) | (refine Nat.le_succ_of_le (Ext.size ?_)))), by omega, hO0, fun j hj => by omega⟩ ?_
  rintro ⟨u, i⟩ h1 ⟨e1, hi, hu, hlt⟩
  dsimp only at hi hu hlt
  by_cases him : i = many l.length o
  · subst him
    rw [widenR_ok hw hlt, hNN] at H
    simp (disch := omega)
    exact H _ _ e1 hu
  · have hin := many_le (show i < many l.length o by omega)
    simp (disch := omega)
    refine JoinN.mk (JoinN.mk ?_)
    refine RefAt_c (hB.ext e1) (by omega) hw0 hin (RefMost_c ?_)
    have hc64 := two64 (wok_pos (wok_wd hw0)).2 (cnt_lt l (wd o) i)
    by_cases hx : cnt l (wd o) i < 2 ^ wd t
    · generalize hQ : 2 ^ wd t - 1 = Q at *
      simp (disch := omega)
      have hiw : i * wd t + wd t ≤ 8 * N := by
        have := Nat.mul_le_mul_right (wd t) (show i + 1 ≤ many l.length o by omega)
        rw [Nat.add_mul, ← hM] at this
        omega
      refine Split.mk (fun hc => ?_) (fun hc => ?_)
      · rw [CondP_true]
        refine With_c hu (by simp; omega) hwt (by simpa using hiw) hc64 fun v2 h2 hO2 e2 hF2 => ?_
        simp (disch := omega)
        refine ⟨i + 1, by simp, ⟨e1.trans e2, by omega, ?_, fun j hj => ?_⟩, by omega⟩
        · have e : wL l (wd o) (wd t) N (i + 1) = setC (wL l (wd o) (wd t) N i) (wd t) i (cnt l (wd o) i) := by rw [wL, if_neg (by omega)]
          rw [e]
          exact hO2.bytes
        · by_cases e : j = i
          · rw [e]; exact hx
          · exact hlt j (by omega)
      · simp (disch := omega)
        refine ⟨i + 1, by simp, ⟨e1, by omega, ?_, fun j hj => ?_⟩, by omega⟩
        · rw [wL, if_pos (by omega)]; exact hu
        · by_cases e : j = i
          · rw [e]; exact hx
          · exact hlt j (by omega)
    · rw [widenR_no hw (by omega) hx] at H
      generalize hQ : 2 ^ wd t - 1 = Q at *
      simp (disch := omega)
      exact H _ _ e1 nilBytes

/-- A width there and back. -/
theorem widen_back {l : List UInt8} {o t : Int} (hw : ¬ (wd o = 0 ∨ wd t = 0)) (hb : ∀ j, j < many l.length o → cnt l (wd o) j < 2 ^ wd t) :
    ∀ w, w = wL l (wd o) (wd t) (wN l.length o t) (many l.length o) → (widenR w t o).2 = 0 ∧ ∀ i : Nat, i < many l.length o → askE (widenR w t o).1.length o i = 0 ∧ getC (widenR w t o).1 o i = cnt l (wd o) i := by
  intro w hwe
  have hw' : ¬ (wd t = 0 ∨ wd o = 0) := by omega
  have hwo := wok_pos (wok_wd (o := o) (by omega))
  have hwt := wok_pos (wok_wd (o := t) (by omega))
  have hlen : w.length = wN l.length o t := by rw [hwe]; simp
  have hN : many l.length o * wd t ≤ 8 * wN l.length o t := by unfold wN; omega
  have hcnt : ∀ j, cnt w (wd t) j = if j < many l.length o then cnt l (wd o) j else 0 := fun j => by rw [hwe]; exact wL_cnt _ _ hN hb
  have hmany : many l.length o ≤ many w.length t := by
    have h1 : many w.length t = 8 * wN l.length o t / wd t := by unfold many; rw [hlen]
    rw [h1]
    exact (Nat.le_div_iff_mul_le hwt.1).2 hN
  have hb' : ∀ j, j < many w.length t → cnt w (wd t) j < 2 ^ wd o := fun j _ => by
    rw [hcnt]
    split
    · exact cnt_lt _ _ _
    · exact Nat.pow_pos (by omega)
  rw [widenR_ok hw' hb']
  refine ⟨rfl, fun i hi => ?_⟩
  have hN2 : many w.length t * wd o ≤ 8 * wN w.length t o := by unfold wN; omega
  have hlen2 : (wL w (wd t) (wd o) (wN w.length t o) (many w.length t)).length = wN w.length t o := by simp
  have hi2 : i < many (wN w.length t o) o := by
    have := (Nat.le_div_iff_mul_le hwo.1).2 hN2
    unfold many at this ⊢
    unfold many at hmany hi
    omega
  have ha : askE (wL w (wd t) (wd o) (wN w.length t o) (many w.length t)).length o i = 0 := by
    rw [hlen2]
    unfold askE
    rw [if_neg (by omega), if_neg (by omega)]
  refine ⟨ha, ?_⟩
  unfold getC
  dsimp only
  rw [if_pos ha, Int.toNat_natCast, wL_cnt _ _ hN2 hb', if_pos (by omega), hcnt, if_pos hi]
end Go.Proofs.Ytmppolccfjfoaaa
