/- Counts: reading, writing and adding, as a whole; the first run of counts that are 0. -/
import Derived.Test.YtmppolccfjfoaaaCounts3
import Derived.Test.YtmppolccfjfoaaaEntry7
set_option linter.unusedSimpArgs false
set_option linter.unusedVariables false
namespace Go.Proofs.Ytmppolccfjfoaaa
open Go.Vc
variable {K : Value → Heap → Prop} {h : Heap}

/-- A count, if it is there. -/
def getC (l : List UInt8) (o i : Int) : Nat := if askE l.length o i = 0 then cnt l (wd o) i.toNat else 0
theorem askE_get {l : List UInt8} {o i : Int} (e : askE l.length o i = 0) : ∃ n : Nat, i = n ∧ wd o ≠ 0 ∧ n * wd o + wd o ≤ 8 * l.length ∧ getC l o n = cnt l (wd o) n := by
  obtain ⟨n, rfl, h1, h2⟩ := askE_zero e
  exact ⟨n, rfl, h1, h2, by unfold getC; rw [if_pos e, Int.toNat_natCast]⟩
theorem two64 {w x : Nat} (hw : w ≤ 64) (hx : x < 2 ^ w) : x < 18446744073709551616 := Nat.lt_of_lt_of_le hx (Nat.pow_le_pow_right (show 0 < 2 by omega) hw)

theorem CGet_c {o i : Int} {v : Value} {l : List UInt8} (hB : Bytes h v l) (hl : l.length < 1000000000) (H : ∀ h', Ext h h' → K (.tuple #[.int .u64 (getC l o i), .int .i64 (askE l.length o i)]) h') :
    CallsH Try.prog 44 #[v, .int .i64 o, .int .i64 i] h K ⟨⟩ := by
  refine n44_calls ?_
  unfold n44
  refine Asked_c hB hl fun h1 e1 => ?_
  by_cases ha : askE l.length o i = 0
  · obtain ⟨n, rfl, h2, h3, h4⟩ := askE_get ha
    rw [ha, h4] at H
    simp (disch := omega) [ha]
    refine cget_c (hB.ext e1) hl (wok_wd h2) h3 ?_
    exact H _ e1
  · have hg : getC l o i = 0 := by unfold getC; rw [if_neg ha]
    rw [hg] at H
    simp (disch := omega) [ha]
    exact H _ e1

/-- The error of writing a count. -/
def setCE (len : Nat) (o i : Int) (x : Nat) : Int := if askE len o i = 0 then (if x < 2 ^ wd o then 0 else 3) else askE len o i
theorem setCE_zero {len : Nat} {o i : Int} {x : Nat} (e : setCE len o i x = 0) : askE len o i = 0 ∧ x < 2 ^ wd o := by
  unfold setCE at e
  split at e
  · rename_i h
    refine ⟨h, ?_⟩
    split at e
    · assumption
    · omega
  · contradiction

theorem CSet_c {B m c : Nat} {o i : Int} {x : Nat} {l z : List UInt8} (hO : OwnS 1 h (.slice (some ⟨B, 0, none⟩) m c) ((l ++ z).map byteV)) (hl : l.length < 1000000000) (hx : x < 18446744073709551616)
    (H : ∀ h', Ext h h' → setCE l.length o i x ≠ 0 → K (.int .i64 (setCE l.length o i x)) h')
    (H0 : ∀ h1 h', Ext h h1 → setCE l.length o i x = 0 → OwnS 1 h' (.slice (some ⟨B, 0, none⟩) m c) ((setC l (wd o) i.toNat x ++ z).map byteV) → Mod (· = B) h1 h' → K (.int .i64 0) h') :
    CallsH Try.prog 45 #[.slice (some ⟨B, 0, none⟩) l.length c, .int .i64 o, .int .i64 i, .int .u64 x] h K ⟨⟩ := by
  have hB := (hO.pre (k := l.length) (by simp)).1
  rw [List.take_left' rfl] at hB
  refine n45_calls ?_
  unfold n45
  refine Asked_c hB hl fun h1 e1 => ?_
  by_cases ha : askE l.length o i = 0
  · obtain ⟨n, rfl, h2, h3, h4⟩ := askE_get ha
    have hw := wok_pos (wok_wd h2)
    unfold setCE at H H0
    rw [if_pos ha] at H H0
    simp (disch := omega) [ha]
    refine Most_c fun h5 e5 => ?_
    have hpos := Nat.pow_pos (n := wd o) (show 0 < 2 by omega)
    have e15 := e1.trans e5
    by_cases hxm : x < 2 ^ wd o
    · rw [if_pos hxm] at H H0
      generalize hM : 2 ^ wd o - 1 = M at *
      simp (disch := omega)
      refine cset_c (hO.ext e15) hl (wok_wd h2) h3 hxm fun h6 hO6 hM6 => ?_
      exact H0 _ _ e15 rfl hO6 hM6
    · rw [if_neg hxm] at H H0
      generalize hM : 2 ^ wd o - 1 = M at *
      simp (disch := omega)
      exact H _ e15 (by omega)
  · unfold setCE at H H0
    rw [if_neg ha] at H H0
    simp (disch := omega) [ha]
    exact H _ e1 ha

theorem Fits_c {room n : Int} (H : K (.bool (decide (n ≤ room))) h) : CallsH Try.prog 78 #[.int .u64 room, .int .u64 n] h K ⟨⟩ := by
  refine n78_calls ?_
  unfold n78
  by_cases hn : n ≤ room
  · simp (disch := omega) [hn]; simpa [hn] using H
  · simp (disch := omega) [hn]; simpa [hn] using H
theorem InvokeH_0_2 {P : Go.Program} {g : Go.FuncId} {a b : Go.Value} (hc : callOk P g = true) (H : CallsH P g #[a, b] h K ⟨⟩) : InvokeH P (.func (.func g) #[] #[]) #[a, b] h K ⟨⟩ := InvokeH_func hc (by simpa using H)

/-- The error of adding to a count. -/
def addCE (l : List UInt8) (o i b : Int) : Int := if askE l.length o i = 0 then (if 0 ≤ (getC l o i : Int) + b ∧ (getC l o i : Int) + b < (2 ^ wd o : Nat) then 0 else 3) else askE l.length o i

set_option maxHeartbeats 1000000 in
theorem CAdd_c {B m c : Nat} {o i b : Int} {l z : List UInt8} (hO : OwnS 1 h (.slice (some ⟨B, 0, none⟩) m c) ((l ++ z).map byteV)) (hl : l.length < 1000000000) (hb : -9223372036854775808 ≤ b ∧ b < 9223372036854775808)
    (H : ∀ h', Ext h h' → addCE l o i b ≠ 0 → K (.tuple #[.int .u64 0, .int .i64 (addCE l o i b)]) h')
    (H0 : ∀ h1 h', Ext h h1 → addCE l o i b = 0 → askE l.length o i = 0 → ((getC l o i : Int) + b).toNat < 2 ^ wd o → 0 ≤ (getC l o i : Int) + b → OwnS 1 h' (.slice (some ⟨B, 0, none⟩) m c) ((setC l (wd o) i.toNat ((getC l o i : Int) + b).toNat ++ z).map byteV) → Mod (· = B) h1 h' → K (.tuple #[.int .u64 ((getC l o i : Int) + b), .int .i64 0]) h') :
    CallsH Try.prog 47 #[.slice (some ⟨B, 0, none⟩) l.length c, .int .i64 o, .int .i64 i, .int .i64 b] h K ⟨⟩ := by
  have hB := (hO.pre (k := l.length) (by simp)).1
  rw [List.take_left' rfl] at hB
  refine n47_calls ?_
  unfold n47
  refine Asked_c hB hl fun h1 e1 => ?_
  by_cases ha : askE l.length o i = 0
  · obtain ⟨n, rfl, h2, h3, h4⟩ := askE_get ha
    have hw := wok_pos (wok_wd h2)
    unfold addCE at H H0
    rw [if_pos ha] at H H0
    have hlt := cnt_lt l (wd o) n
    rw [← h4] at hlt
    generalize hX : getC l o n = X at *
    have hX64 := two64 hw.2 hlt
    have hpos := Nat.pow_pos (n := wd o) (show 0 < 2 by omega)
    have h264 := Nat.pow_le_pow_right (show 0 < 2 by omega) hw.2
    have hsh : (18446744073709551615 : Int) / 2 ^ (64 - wd o) = ((2 ^ wd o : Nat) : Int) - 1 := by
      rcases wd_ok h2 with (e | e | e) | ⟨r, e, r1, r2⟩
      · rw [e]; decide
      · rw [e]; decide
      · rw [e]; decide
      · rw [e]
        have : r = 1 ∨ r = 2 ∨ r = 3 ∨ r = 4 ∨ r = 5 ∨ r = 6 ∨ r = 7 ∨ r = 8 := by omega
        rcases this with rfl | rfl | rfl | rfl | rfl | rfl | rfl | rfl <;> decide
    generalize hP : 2 ^ wd o = Q at *
    have hn1 : (18446744073709551615 : Int) / 2 ^ (64 - wd o) = (Q : Int) - 1 := hsh
    by_cases hb0 : 0 ≤ b
    · by_cases hf : b ≤ (Q : Int) - 1 - X
      · rw [if_pos (by omega)] at H0
        simp (disch := omega) [ha, Hp_shr_u64, hn1]
        refine cget_c (hB.ext e1) hl (wok_wd h2) h3 ?_
        rw [← h4]
        refine JoinN.mk (JoinN.mk ?_)
        simp (disch := omega) [hn1]
        refine InvokeH_0_2 (by kernel_rfl) (Fits_c ?_)
        simp (disch := omega) [hf]
        rw [show ((X : Int) + b) = (((X : Int) + b).toNat : Nat) by omega]
        refine cset_c (x := ((X : Int) + b).toNat) (hO.ext e1) hl (wok_wd h2) h3 (by rw [hP]; omega) fun h6 hO6 hM6 => ?_
        have := H0 _ _ e1 rfl ha (by omega) (by omega) (by simpa using hO6) hM6
        rwa [show ((X : Int) + b) = (((X : Int) + b).toNat : Nat) by omega] at this
      · rw [if_neg (by omega)] at H
        simp (disch := omega) [ha, Hp_shr_u64, hn1]
        refine cget_c (hB.ext e1) hl (wok_wd h2) h3 ?_
        rw [← h4]
        refine JoinN.mk (JoinN.mk ?_)
        simp (disch := omega) [hn1]
        refine InvokeH_0_2 (by kernel_rfl) (Fits_c ?_)
        simp (disch := omega) [hf]
        exact H _ e1 (by omega)
    · have hcv : IntKind.u64.wrap b = b + 18446744073709551616 := by rw [wrap_u64_eq]; omega
      have hng : IntKind.u64.wrap (-(b + 18446744073709551616)) = -b := by rw [wrap_u64_eq]; omega
      by_cases hf : -b ≤ X
      · rw [if_pos (by omega)] at H0
        simp (disch := omega) [ha, Hp_shr_u64, hn1]
        refine cget_c (hB.ext e1) hl (wok_wd h2) h3 ?_
        rw [← h4]
        refine JoinN.mk (JoinN.mk ?_)
        simp (disch := omega) [hn1, Try.cvw2_25, hcv, hng]
        refine InvokeH_0_2 (by kernel_rfl) (Fits_c ?_)
        simp (disch := omega) [hf, Try.cvw2_25, hcv, hng]
        rw [show ((X : Int) + b) = (((X : Int) + b).toNat : Nat) by omega]
        refine cset_c (x := ((X : Int) + b).toNat) (hO.ext e1) hl (wok_wd h2) h3 (by rw [hP]; omega) fun h6 hO6 hM6 => ?_
        have := H0 _ _ e1 rfl ha (by omega) (by omega) (by simpa using hO6) hM6
        rwa [show ((X : Int) + b) = (((X : Int) + b).toNat : Nat) by omega] at this
      · rw [if_neg (by omega)] at H
        simp (disch := omega) [ha, Hp_shr_u64, hn1]
        refine cget_c (hB.ext e1) hl (wok_wd h2) h3 ?_
        rw [← h4]
        refine JoinN.mk (JoinN.mk ?_)
        simp (disch := omega) [hn1, Try.cvw2_25, hcv, hng]
        refine InvokeH_0_2 (by kernel_rfl) (Fits_c ?_)
        simp (disch := omega) [hf]
        exact H _ e1 (by omega)
  · unfold addCE at H H0
    rw [if_neg ha] at H H0
    simp (disch := omega) [ha]
    exact H _ e1 ha

/-- Counts from s on that are 0. -/
def freeP (l : List UInt8) (w n s : Nat) : Prop := ∀ j, j < n → cnt l w (s + j) = 0
def freeX (l : List UInt8) (o : Int) (f n s : Nat) : Prop := f ≤ s ∧ s + n ≤ many l.length o ∧ freeP l (wd o) n s ∧ ∀ s', f ≤ s' → s' < s → ¬ freeP l (wd o) n s'
open Classical in
noncomputable def freeR (l : List UInt8) (o f n : Int) : Nat × Int :=
  if wd o = 0 ∨ n < 1 then (0, 2) else if f < 0 ∨ (many l.length o : Int) < f then (0, 4) else if hx : ∃ s, freeX l o f.toNat n.toNat s then (hx.choose, 0) else (0, 7)
theorem freeR_is {l : List UInt8} {o f n : Int} {s : Nat} (hw : wd o ≠ 0) (hn : ¬ n < 1) (hf : ¬ f < 0) (hf2 : ¬ (many l.length o : Int) < f) (hs : freeX l o f.toNat n.toNat s) : freeR l o f n = (s, 0) := by
  have hx : ∃ s, freeX l o f.toNat n.toNat s := ⟨s, hs⟩
  unfold freeR
  rw [if_neg (by simp only [not_or]; exact ⟨hw, hn⟩), if_neg (by simp only [not_or]; exact ⟨hf, hf2⟩), dif_pos hx]
  congr 1
  have hc := hx.choose_spec
  rcases Nat.lt_trichotomy hx.choose s with h | h | h
  · exact absurd hc.2.2.1 (hs.2.2.2 _ hc.1 h)
  · exact h
  · exact absurd hs.2.2.1 (hc.2.2.2 _ hs.1 h)
theorem freeR_no {l : List UInt8} {o f n : Int} (hw : wd o ≠ 0) (hn : ¬ n < 1) (hf : ¬ f < 0) (hf2 : ¬ (many l.length o : Int) < f) (hs : ∀ s, f.toNat ≤ s → s + n.toNat ≤ many l.length o → ¬ freeP l (wd o) n.toNat s) : freeR l o f n = (0, 7) := by
  unfold freeR
  rw [if_neg (by simp only [not_or]; exact ⟨hw, hn⟩), if_neg (by simp only [not_or]; exact ⟨hf, hf2⟩), dif_neg]
  rintro ⟨s, h1, h2, h3, h4⟩
  exact hs s h1 h2 h3
theorem many_le {len n : Nat} {o : Int} (hn : n < many len o) : n * wd o + wd o ≤ 8 * len := by
  have h2 := Nat.mul_le_mul_right (wd o) (show n + 1 ≤ many len o by omega)
  have h3 := Nat.div_mul_le_self (8 * len) (wd o)
  unfold many at h2
  rw [Nat.add_mul] at h2
  omega
theorem many_bd (len : Nat) (o : Int) : many len o ≤ 8 * len := Nat.div_le_self _ _

theorem Free_c {o f n : Int} {v : Value} {l : List UInt8} (hB : Bytes h v l) (hl : l.length < 1000000000) (hn : n < 9223372036854775808) (H : ∀ h', Ext h h' → K (.tuple #[.int .i64 (freeR l o f n).1, .int .i64 (freeR l o f n).2]) h') :
    CallsH Try.prog 52 #[v, .int .i64 o, .int .i64 f, .int .i64 n] h K ⟨⟩ := by
  refine n52_calls ?_
  unfold n52
  refine Many_c hB hl fun h1 e1 => ?_
  by_cases hw : wd o = 0
  · have hr : freeR l o f n = (0, 2) := by unfold freeR; rw [if_pos (.inl hw)]
    rw [hr] at H
    simp (disch := omega) [hw]
    exact H _ e1
  · by_cases hn1 : n < 1
    · have hr : freeR l o f n = (0, 2) := by unfold freeR; rw [if_pos (.inr hn1)]
      rw [hr] at H
      simp (disch := omega) [hw]
      exact H _ e1
    · by_cases hf : f < 0 ∨ (many l.length o : Int) < f
      · have hr : freeR l o f n = (0, 4) := by unfold freeR; rw [if_neg (by simp only [not_or]; exact ⟨hw, hn1⟩), if_pos hf]
        rw [hr] at H
        by_cases hf0 : f < 0
        · simp (disch := omega) [hw, hf0]
          exact H _ e1
        · simp (disch := omega) [hw, hf0]
          exact H _ e1
      · obtain ⟨f0, rfl⟩ := Int.eq_ofNat_of_zero_le (show 0 ≤ f by omega)
        simp (disch := omega) [hw]
        refine Width_c fun h3 e3 => ?_
        have e13 := e1.trans e3
        have hmb := many_bd l.length o
        have no := fun hs => freeR_no (l := l) (f := (f0 : Int)) hw hn1 (by omega) (by omega) hs
        have is := fun s hs => freeR_is (l := l) (f := (f0 : Int)) (s := s) hw hn1 (by omega) (by omega) hs
        simp only [Int.toNat_natCast] at no is
        refine JoinN_in2 (fun b fd h' => h' = h3 ∧ (fd = .bool true ∧ (∃ s : Nat, b = .int .i64 s ∧ freeR l o f0 n = (s, 0)) ∨ fd = .bool false ∧ freeR l o f0 n = (0, 7))) (fun kk hkk => ?_) (fun b fd h' hx => ?_)
        · refine JoinN.mk ?_
          refine loopA3 (fun a : Nat × Nat => .int .i64 a.1) (fun _ => .bool false) (fun a => .int .i64 a.2) (fun a h' => h' = h3 ∧ f0 ≤ a.1 ∧ a.1 ≤ a.2 ∧ a.2 ≤ many l.length o ∧ ((a.2 : Int) - a.1 < n) ∧ (∀ j, a.1 ≤ j → j < a.2 → cnt l (wd o) j = 0) ∧ ∀ s, f0 ≤ s → s < a.1 → ¬ freeP l (wd o) n.toNat s) (fun a => many l.length o - a.2) (f0, f0) ⟨rfl, rfl, rfl⟩ ⟨rfl, by omega, by omega, by omega, by omega, fun j h1 h2 => by omega, fun s h1 h2 => by omega⟩ ?_
          rintro ⟨b, i⟩ h' ⟨rfl, hb1, hb2, hi, hbn, hz, hno⟩
          dsimp only at hb1 hb2 hi hbn hz hno
          by_cases him : i = many l.length o
          · simp (disch := omega) [him]
            refine hkk _ _ _ ⟨rfl, .inr ⟨rfl, no fun s h1 h2 => ?_⟩⟩
            exact hno s h1 (by omega)
          · simp (disch := omega)
            refine JoinN.mk (JoinN.mk ?_)
            refine cget_c (hB.ext e13) hl (wok_wd hw) (many_le (by omega)) ?_
            by_cases hc : cnt l (wd o) i = 0
            · simp (disch := omega) [hc]
              refine Split.mk (fun he => ?_) (fun he => ?_)
              · rw [CondP_true]
                refine hkk _ _ _ ⟨rfl, .inl ⟨rfl, b, rfl, is b ⟨hb1, by omega, fun j hj => ?_, hno⟩⟩⟩
                by_cases e : b + j = i
                · rw [e]; exact hc
                · exact hz _ (by omega) (by omega)
              · simp (disch := omega)
                refine ⟨b, rfl, i + 1, by simp, ⟨hb1, by omega, by omega, by omega, fun j h1 h2 => ?_, hno⟩, by omega⟩
                by_cases e : j = i
                · rw [e]; exact hc
                · exact hz _ h1 (by omega)
            · have hc' : ¬ ((cnt l (wd o) i : Nat) : Int) = 0 := by omega
              simp (disch := omega) [hc']
              refine ⟨i + 1, by simp, i + 1, by simp, ⟨by omega, by omega, by omega, by omega, fun j h1 h2 => by omega, fun s h1 h2 hp => ?_⟩, by omega⟩
              by_cases e : s < b
              · exact hno s h1 e hp
              · have := hp (i - s) (by omega)
                rw [show s + (i - s) = i by omega] at this
                exact hc this
        · obtain ⟨rfl, hx⟩ := hx
          rcases hx with ⟨rfl, s, rfl, hr⟩ | ⟨rfl, hr⟩
          · rw [hr] at H
            simp (disch := omega)
            exact H _ e13
          · rw [hr] at H
            simp (disch := omega)
            exact H _ e13
end Go.Proofs.Ytmppolccfjfoaaa
