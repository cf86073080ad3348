/- What is proved: the law palimpsestlaw10.CountsOne returns true for every input, and its arguments read as they did. No conditions. -/
import Derived.Test.YtmppolccfjfoaaaRows
import Derived.Test.YtmppolccfjfoaaaOpen
import Derived.Test.YtmppolccfjfoaaaCounts5
set_option linter.unusedSimpArgs false
set_option linter.unusedVariables false
namespace Go.Proofs.Ytmppolccfjfoaaa
open Go.Vc
variable {K : Value → Heap → Prop} {h : Heap}

theorem askE_wd {len : Nat} {o i : Int} (hw : wd o = 0) : askE len o i = 2 := by unfold askE; rw [if_pos hw]
theorem askE_out {len : Nat} {o i : Int} (hw : wd o ≠ 0) (hi : i < 0 ∨ (many len o : Nat) ≤ i) : askE len o i = 4 := by unfold askE; rw [if_neg hw, if_pos hi]
theorem askE_in {len : Nat} {o i : Int} (hw : wd o ≠ 0) (hi : ¬ (i < 0 ∨ (many len o : Nat) ≤ i)) : askE len o i = 0 := by unfold askE; rw [if_neg hw, if_neg hi]

set_option maxHeartbeats 4000000 in
theorem CountsOne_c {v : Value} {l : List UInt8} {o i b : Int} {x : Nat} (hB : Bytes h v l) (hx : x < 18446744073709551616) (hb : -9223372036854775808 ≤ b ∧ b < 9223372036854775808) (H : ∀ h', Ext h h' → K (.bool true) h') :
    CallsH Try.prog 9 #[v, .int .i64 o, .agg #[.int .i64 i, .int .u64 x, .int .i64 b]] h K ⟨⟩ := by
  obtain ⟨q, q0, rfl⟩ := hB.form
  refine n9_calls ?_
  unfold n9
  by_cases hl : (3000 : Int) < l.length
  · simp (disch := omega) [hl]
    exact Cknown_c fun h' e => H h' (by repeat' (first | (with_reducible exact Ext.refl _) | (with_reducible assumption) | (with_reducible refine push_ext ?_) | (with_reducible refine hset_ext ?_ ?_) | (with_reducible refine Ext.trans ?_ (by assumption)) | omega | (simp; done) | (simp; omega) | (refine Ext.size ?_) | (refine Nat.le_succ_of_le (Ext.size ?_))))
  · have hE0 : Ext h (h.push (.cells #[.int .i64 i, .int .u64 x, .int .i64 b] 78)) := (by repeat' (first | (with_reducible exact Ext.refl _) | (with_reducible assumption) | (with_reducible refine push_ext ?_) | (with_reducible refine hset_ext ?_ ?_) | (with_reducible refine Ext.trans ?_ (by assumption)) | omega | (simp; done) | (simp; omega) | (refine Ext.size ?_) | (refine Nat.le_succ_of_le (Ext.size ?_))))
    simp (disch := omega) [hl]
    generalize h.push (.cells #[.int .i64 i, .int .u64 x, .int .i64 b] 78) = h0 at *
    replace hB := hB.ext hE0
    replace H : ∀ h', Ext h0 h' → K (.bool true) h' := fun h' e => H h' (hE0.trans e)
    refine mk77 hB (by omega) fun B c h2 e2 hBB hc hO => ?_
    have hP := pre77 rfl hO
    simp (disch := omega)
    refine Many_c hP.1 (by omega) fun h3 e3 => ?_
    simp (disch := omega)
    refine Most_c fun h4 e4 => ?_
    simp (disch := omega) only [Hp_extract0, Hp_extract1]
    refine CGet_c (hP.1.ext (e3.trans e4)) (by omega) fun h5 e5 => ?_
    simp (disch := omega) only [Hp_extract0, Hp_extract1]
    have e25 := (e3.trans e4).trans e5
    have hmb := many_bd l.length o
    by_cases hw : wd o = 0
    · have ha := askE_wd (len := l.length) (i := i) hw
      have hg : getC l o i = 0 := by unfold getC; rw [if_neg (by omega)]
      have hs : setCE l.length o i x = 2 := by unfold setCE; rw [if_neg (by omega)]; exact ha
      have hd : addCE l o i b = 2 := by unfold addCE; rw [if_neg (by omega)]; exact ha
      have hm : many l.length o = 0 := by unfold many; rw [hw]; simp
      refine CSet_c (hO.ext e25) (by omega) hx (fun h6 e6 _ => ?_) (fun _ _ _ e => absurd (hs.symm.trans e) (by decide))
      refine RefWidth_c ?_
      rw [hw, ha, hg, hs, hm]
      simp (disch := omega)
      refine CAdd_c (hO.ext (e25.trans e6)) (by omega) hb (fun h7 e7 _ => ?_) (fun _ _ _ e => absurd (hd.symm.trans e) (by decide))
      rw [hd]
      have e27 := (e25.trans e6).trans e7
      simp (disch := omega) [Try.cv39_9 (hP.1.ext e27), Try.cv39_9 (hB.ext (e2.trans e27))]
      refine Cknown_c fun h8 e8 => ?_
      simp (disch := omega)
      exact H _ ((e2.trans e27).trans e8)
    · by_cases hi : i < 0 ∨ (many l.length o : Nat) ≤ i
      · have ha := askE_out (len := l.length) (i := i) hw hi
        have hg : getC l o i = 0 := by unfold getC; rw [if_neg (by omega)]
        have hs : setCE l.length o i x = 4 := by unfold setCE; rw [if_neg (by omega)]; exact ha
        have hd : addCE l o i b = 4 := by unfold addCE; rw [if_neg (by omega)]; exact ha
        refine CSet_c (hO.ext e25) (by omega) hx (fun h6 e6 _ => ?_) (fun _ _ _ e => absurd (hs.symm.trans e) (by decide))
        refine RefWidth_c ?_
        rw [ha, hg, hs]
        simp (disch := omega) [hw]
        refine RefMany_c (hB.ext (e2.trans (e25.trans e6))) (by omega) hw ?_
        simp (disch := omega)
        refine RefMost_c ?_
        simp (disch := omega)
        by_cases hi0 : i < 0
        · simp (disch := omega) [hi0]
          refine CAdd_c (hO.ext (e25.trans e6)) (by omega) hb (fun h7 e7 _ => ?_) (fun _ _ _ e => absurd (hd.symm.trans e) (by decide))
          rw [hd]
          have e27 := (e25.trans e6).trans e7
          simp (disch := omega) [Try.cv39_9 (hP.1.ext e27), Try.cv39_9 (hB.ext (e2.trans e27))]
          refine Cknown_c fun h8 e8 => ?_
          simp (disch := omega)
          exact H _ ((e2.trans e27).trans e8)
        · simp (disch := omega) [hi0]
          refine CAdd_c (hO.ext (e25.trans e6)) (by omega) hb (fun h7 e7 _ => ?_) (fun _ _ _ e => absurd (hd.symm.trans e) (by decide))
          rw [hd]
          have e27 := (e25.trans e6).trans e7
          simp (disch := omega) [Try.cv39_9 (hP.1.ext e27), Try.cv39_9 (hB.ext (e2.trans e27))]
          refine Cknown_c fun h8 e8 => ?_
          simp (disch := omega)
          exact H _ ((e2.trans e27).trans e8)
      · have ha := askE_in (len := l.length) (i := i) hw hi
        obtain ⟨n, rfl, -, hn, hg⟩ := askE_get ha
        generalize hX : cnt l (wd o) n = X at *
        by_cases hxm : x < 2 ^ wd o
        · have hs : setCE l.length o n x = 0 := by unfold setCE; rw [if_pos ha, if_pos hxm]
          refine CSet_c (hO.ext e25) (by omega) hx (fun _ _ e => absurd hs e) (fun h6 h7 e6 _ hO7 hM7 => ?_)
          have hE7 : Ext h0 h7 := hM7.ext_from ((e2.trans e25).trans e6) (fun b hb hb' => by omega)
          have hB7 := hB.ext hE7
          rw [Int.toNat_natCast] at hO7
          have hlen : (setC l (wd o) n x).length = l.length := setC_length _ _ _ _
          have hpos := Nat.pow_pos (n := wd o) (show 0 < 2 by omega)
          refine RefWidth_c ?_
          rw [ha, hg]
          simp (disch := omega) [hw]
          refine RefMany_c hB7 (by omega) hw ?_
          simp (disch := omega)
          refine RefMost_c ?_
          simp (disch := omega)
          refine RefAt_c hB7 (by omega) hw hn ?_
          rw [hX]
          simp (disch := omega)
          generalize hQ : 2 ^ wd o - 1 = Q at *
          refine JoinN.mk ?_
          simp (disch := omega)
          refine With_c hB7 (by omega) hw hn hx fun vw h8 hO8 hE8 hF8 => ?_
          simp (disch := omega)
          have hO8' := hO7.ext hE8
          have hE08 := hE7.trans hE8
          have hQ' : Q < 2 ^ wd o := by omega
          have hB77 := pre77 hlen hO8'
          simp (disch := omega) [Try.cv39_9 hB77.1, Try.cv39_9 hO8.bytes]
          refine RefAt_c hO8.bytes (by rw [hlen]; omega) hw (by rw [hlen]; exact hn) ?_
          have hlt := cnt_lt (setC l (wd o) n x) (wd o) n
          have haL : askE ((setC l (wd o) n x)).length o n = 0 := by rw [hlen]; exact ha
          have hgL : getC (setC l (wd o) n x) o n = cnt (setC l (wd o) n x) (wd o) n := by unfold getC; rw [if_pos haL, Int.toNat_natCast]
          rw [show l.length = ((setC l (wd o) n x)).length from hlen.symm]
          by_cases hf : 0 ≤ (cnt (setC l (wd o) n x) (wd o) n : Int) + b ∧ (cnt (setC l (wd o) n x) (wd o) n : Int) + b < (2 ^ wd o : Nat)
          · have hd : addCE (setC l (wd o) n x) o n b = 0 := by unfold addCE; rw [if_pos haL, hgL, if_pos hf]
            refine CAdd_c (l := (setC l (wd o) n x)) hO8' (by rw [hlen]; omega) hb (fun _ _ e => absurd hd e) (fun ha1 ha2 ea1 _ _ hlt9 hnn hO9 hM9 => ?_)
            rw [hgL] at hlt9 hnn hO9 ⊢
            rw [Int.toNat_natCast] at hO9
            have hE9 : Ext h0 ha2 := hM9.ext_from (hE08.trans ea1) (fun b hb hb' => by omega)
            have hW9 := (hO8.bytes.ext ea1).mod hM9 (fun b hb => by have := hF8 b hb; have := hO7.lt (b := B) rfl; omega)
            generalize hN : cnt (setC l (wd o) n x) (wd o) n = N at *
            have h64 := two64 (wok_pos (wok_wd hw)).2 hlt
            have h65 := two64 (wok_pos (wok_wd hw)).2 hlt9
            have h66 := two64 (wok_pos (wok_wd hw)).2 hQ'
            have hsum : ((N : Int) + b).toNat = (N : Int) + b := by omega
            have hl9 : (setC (setC l (wd o) n x) (wd o) n ((N : Int) + b).toNat).length = l.length := by simp [hlen]
            have hP9 := pre77 hl9 hO9
            by_cases hb0 : 0 ≤ b
            · have hbq : b ≤ (Q : Int) - N := by omega
              simp (disch := omega) [hbq, Try.cv39_9 hP9.1]
              rw [show ((N : Int) + b) = (((N : Int) + b).toNat : Nat) by omega]
              refine With_c hW9 (by rw [hlen]; omega) hw (by rw [hlen]; exact hn) (by omega) fun vz hz hOz hEz hFz => ?_
              have hPz := pre77 hl9 (hO9.ext hEz)
              have hcz := hPz.2
              simp (disch := omega) [Try.cv39_9 hPz.1, Try.cv39_9 hOz.bytes, hlen, hcz, byteV]
              refine Cknown_c fun hk ek => ?_
              simp (disch := omega)
              exact H _ ((hE9.trans hEz).trans ek)
            · have hb1 : -(b + 1) < N := by omega
              have hcv : IntKind.u64.wrap b = b + 18446744073709551616 := by rw [wrap_u64_eq]; omega
              have hng : IntKind.u64.wrap ((N : Int) + (b + 18446744073709551616)) = N + b := by rw [wrap_u64_eq]; omega
              simp (disch := omega) [hb1, Try.cvw2_25, hcv, hng, Try.cv39_9 hP9.1]
              rw [show ((N : Int) + b) = (((N : Int) + b).toNat : Nat) by omega]
              refine With_c hW9 (by rw [hlen]; omega) hw (by rw [hlen]; exact hn) (by omega) fun vz hz hOz hEz hFz => ?_
              have hPz := pre77 hl9 (hO9.ext hEz)
              have hcz := hPz.2
              simp (disch := omega) [Try.cv39_9 hPz.1, Try.cv39_9 hOz.bytes, hlen, hcz, byteV]
              refine Cknown_c fun hk ek => ?_
              simp (disch := omega)
              exact H _ ((hE9.trans hEz).trans ek)
          · have hd : addCE (setC l (wd o) n x) o n b = 3 := by unfold addCE; rw [if_pos haL, hgL, if_neg hf]
            refine CAdd_c (l := (setC l (wd o) n x)) hO8' (by rw [hlen]; omega) hb (fun ha1 ea1 _ => ?_) (fun _ _ _ e => absurd (hd.symm.trans e) (by decide))
            rw [hd]
            generalize hN : cnt (setC l (wd o) n x) (wd o) n = N at *
            have hEa := hE08.trans ea1
            have hWa := (hO8.bytes.ext ea1)
            have hPa := pre77 hlen (hO8'.ext ea1)
            have hca := hPa.2
            have h64 := two64 (wok_pos (wok_wd hw)).2 hlt
            have h66 := two64 (wok_pos (wok_wd hw)).2 hQ'
            by_cases hb0 : 0 ≤ b
            · have hbq : ¬ b ≤ (Q : Int) - N := by omega
              simp (disch := omega) [hbq, Try.cv39_9 hPa.1, Try.cv39_9 hWa, hlen, hca, byteV]
              refine Cknown_c fun hk ek => ?_
              simp (disch := omega)
              exact H _ (hEa.trans ek)
            · have hb1 : ¬ -(b + 1) < N := by omega
              simp (disch := omega) [hb1, Try.cv39_9 hPa.1, Try.cv39_9 hWa, hlen, hca, byteV]
              refine Cknown_c fun hk ek => ?_
              simp (disch := omega)
              exact H _ (hEa.trans ek)
        · have hs : setCE l.length o n x = 3 := by unfold setCE; rw [if_pos ha, if_neg hxm]
          refine CSet_c (hO.ext e25) (by omega) hx (fun h6 e6 _ => ?_) (fun _ _ _ e => absurd (hs.symm.trans e) (by decide))
          have e26 := e25.trans e6
          have hE6 := e2.trans e26
          have hB6 := hB.ext hE6
          have hO6 := hO.ext e26
          have hlen : l.length = l.length := rfl
          have hpos := Nat.pow_pos (n := wd o) (show 0 < 2 by omega)
          have hqB : ∀ b, blkV (.slice q l.length q0) = some b → b ≠ B := by
            intro b hb hb'
            have hlen0 : 0 < l.length := by have := wok_pos (wok_wd hw); omega
            obtain ⟨a, rfl, -, -, hA⟩ := hB.at hlen0
            have := hcell_lt (hA 0 hlen0)
            simp at this
            cases hb
            omega
          refine RefWidth_c ?_
          rw [hs, ha, hg]
          simp (disch := omega) [hw]
          refine RefMany_c hB6 (by omega) hw ?_
          simp (disch := omega)
          refine RefMost_c ?_
          simp (disch := omega)
          refine RefAt_c hB6 (by omega) hw hn ?_
          rw [hX]
          simp (disch := omega)
          generalize hQ : 2 ^ wd o - 1 = Q at *
          have hQ' : Q < 2 ^ wd o := by omega
          have hxq : ¬ (x : Int) ≤ Q := by omega
          refine JoinN.mk ?_
          simp (disch := omega) [hxq]
          have hB77 := pre77 hlen hO6
          simp (disch := omega) [Try.cv39_9 hB77.1, Try.cv39_9 hB6]
          refine RefAt_c hB6 (by rw [hlen]; omega) hw (by rw [hlen]; exact hn) ?_
          have hlt := cnt_lt l (wd o) n
          have haL : askE (l).length o n = 0 := by rw [hlen]; exact ha
          have hgL : getC l o n = cnt l (wd o) n := by unfold getC; rw [if_pos haL, Int.toNat_natCast]
          rw [show l.length = (l).length from hlen.symm]
          by_cases hf : 0 ≤ (cnt l (wd o) n : Int) + b ∧ (cnt l (wd o) n : Int) + b < (2 ^ wd o : Nat)
          · have hd : addCE l o n b = 0 := by unfold addCE; rw [if_pos haL, hgL, if_pos hf]
            refine CAdd_c (l := l) hO6 (by rw [hlen]; omega) hb (fun _ _ e => absurd hd e) (fun ha1 ha2 ea1 _ _ hlt9 hnn hO9 hM9 => ?_)
            rw [hgL] at hlt9 hnn hO9 ⊢
            rw [Int.toNat_natCast] at hO9
            have hE9 : Ext h0 ha2 := hM9.ext_from (hE6.trans ea1) (fun b hb hb' => by omega)
            have hW9 := (hB6.ext ea1).mod hM9 hqB
            generalize hN : cnt l (wd o) n = N at *
            have h64 := two64 (wok_pos (wok_wd hw)).2 hlt
            have h65 := two64 (wok_pos (wok_wd hw)).2 hlt9
            have h66 := two64 (wok_pos (wok_wd hw)).2 hQ'
            have hsum : ((N : Int) + b).toNat = (N : Int) + b := by omega
            have hl9 : (setC l (wd o) n ((N : Int) + b).toNat).length = l.length := by simp [hlen]
            have hP9 := pre77 hl9 hO9
            by_cases hb0 : 0 ≤ b
            · have hbq : b ≤ (Q : Int) - N := by omega
              simp (disch := omega) [hbq, Try.cv39_9 hP9.1]
              rw [show ((N : Int) + b) = (((N : Int) + b).toNat : Nat) by omega]
              refine With_c hW9 (by rw [hlen]; omega) hw (by rw [hlen]; exact hn) (by omega) fun vz hz hOz hEz hFz => ?_
              have hPz := pre77 hl9 (hO9.ext hEz)
              have hcz := hPz.2
              simp (disch := omega) [Try.cv39_9 hPz.1, Try.cv39_9 hOz.bytes, hlen, hcz, byteV]
              refine Cknown_c fun hk ek => ?_
              simp (disch := omega)
              exact H _ ((hE9.trans hEz).trans ek)
            · have hb1 : -(b + 1) < N := by omega
              have hcv : IntKind.u64.wrap b = b + 18446744073709551616 := by rw [wrap_u64_eq]; omega
              have hng : IntKind.u64.wrap ((N : Int) + (b + 18446744073709551616)) = N + b := by rw [wrap_u64_eq]; omega
              simp (disch := omega) [hb1, Try.cvw2_25, hcv, hng, Try.cv39_9 hP9.1]
              rw [show ((N : Int) + b) = (((N : Int) + b).toNat : Nat) by omega]
              refine With_c hW9 (by rw [hlen]; omega) hw (by rw [hlen]; exact hn) (by omega) fun vz hz hOz hEz hFz => ?_
              have hPz := pre77 hl9 (hO9.ext hEz)
              have hcz := hPz.2
              simp (disch := omega) [Try.cv39_9 hPz.1, Try.cv39_9 hOz.bytes, hlen, hcz, byteV]
              refine Cknown_c fun hk ek => ?_
              simp (disch := omega)
              exact H _ ((hE9.trans hEz).trans ek)
          · have hd : addCE l o n b = 3 := by unfold addCE; rw [if_pos haL, hgL, if_neg hf]
            refine CAdd_c (l := l) hO6 (by rw [hlen]; omega) hb (fun ha1 ea1 _ => ?_) (fun _ _ _ e => absurd (hd.symm.trans e) (by decide))
            rw [hd]
            generalize hN : cnt l (wd o) n = N at *
            have hEa := hE6.trans ea1
            have hWa := (hB6.ext ea1)
            have hPa := pre77 hlen (hO6.ext ea1)
            have hca := hPa.2
            have h64 := two64 (wok_pos (wok_wd hw)).2 hlt
            have h66 := two64 (wok_pos (wok_wd hw)).2 hQ'
            by_cases hb0 : 0 ≤ b
            · have hbq : ¬ b ≤ (Q : Int) - N := by omega
              simp (disch := omega) [hbq, Try.cv39_9 hPa.1, Try.cv39_9 hWa, hlen, hca, byteV]
              refine Cknown_c fun hk ek => ?_
              simp (disch := omega)
              exact H _ (hEa.trans ek)
            · have hb1 : ¬ -(b + 1) < N := by omega
              simp (disch := omega) [hb1, Try.cv39_9 hPa.1, Try.cv39_9 hWa, hlen, hca, byteV]
              refine Cknown_c fun hk ek => ?_
              simp (disch := omega)
              exact H _ (hEa.trans ek)
end Go.Proofs.Ytmppolccfjfoaaa
namespace Go.Proofs.Ytmppolccfjfoaaa.countsOne
open Go.ChangeShapes Go.WideShapes Go.ChangeAt Go.RowKit Go.Joins Go.Vc

theorem own : ownKnob Try.prog.godebug = none := by kernel_rfl
theorem laidOut : laidOutB Try.prog = true := by kernel_rfl

set_option maxRecDepth 100000 in
set_option maxHeartbeats 1000000 in
theorem lifted (os : Os) (started : os.Started) (H : Type) (enc : TypeId × Value → H) :
    ReturnsInHanded {} Try.checked os 9 .any (Rows.countsOneSpec.pre6 enc Try.prog Try.f9 Rows.countsOneRow.domain false) (Rows.countsOneSpec.post enc Try.prog Try.f9 false true false false) := by
  refine returnsInHanded_of_change (C := Try.checked) own started (by kernel_rfl) Try.func9
    (ChangeSpec.witness6 (enc := enc) (C := Try.checked) false ⟨#[], #[.slice none 0 0, .int .i64 9, .agg #[.int .i64 0, .int .u64 0, .int .i64 0]], []⟩ 8 (by kernel_rfl) (by kernel_rfl) (by kernel_rfl) (by kernel_rfl)) ?_
  intro W base args ds gs before hval0 hW hcnd _
  have hval : ∀ (j : Nat) t v, Try.f9.params[j]? = some t → args[j]? = some v → Value.okWide Try.prog W .any base t v := hval0
  have hW' := hW
  obtain ⟨p, q, hA0, hV, rfl, hfz, hnd⟩ := hW
  have hA : DataW.TrodAll enc Try.prog W 0 (fun _ => true) true Try.f9.params.toList args.toList ds p := hA0
  rw [Try.params9] at hA hval
  obtain ⟨v0, vs0, d0, ds0, p0, q0, hargs, rfl, rfl, h0, r0⟩ := trodAll_cons hA
  obtain ⟨v1, vs1, d1, ds1, p1, q1, rfl, rfl, rfl, h1, r1⟩ := trodAll_cons r0
  obtain ⟨v2, vs2, d2, ds2, p2, q2, rfl, rfl, rfl, h2, r2⟩ := trodAll_cons r1
  obtain ⟨rfl, rfl, rfl⟩ := trodAll_nil r2
  obtain rfl : args = #[v0, v1, v2] := by cases args; simp_all
  obtain ⟨l, hB, _⟩ := open_bytes (e := 5) (by kernel_rfl) (by kernel_rfl) (by kernel_rfl) (hval 0 39 v0 rfl rfl) h0
  obtain ⟨o, rfl, _, _, wo⟩ := open_int (k := .i64) (by kernel_rfl) (hval 1 3 v1 rfl rfl) h1
  obtain ⟨cs, rfl, hl, hL⟩ := Laid.topFlds (L := [(3, 0, 1), (25, 1, 1), (2, 2, 1)]) (n := 3) (by kernel_rfl) (by kernel_rfl) (hval 2 78 v2 rfl rfl) h2
  obtain ⟨c0, c1, c2, rfl⟩ := len3 hl
  obtain ⟨i, hi, -⟩ := (hL 0 _ _ _ rfl).int (k := .i64) (by kernel_rfl)
  obtain ⟨x, hx, hx1, hx2⟩ := (hL 1 _ _ _ rfl).int (k := .u64) (by kernel_rfl)
  obtain ⟨b, hb, hb1, hb2⟩ := (hL 2 _ _ _ rfl).int (k := .i64) (by kernel_rfl)
  obtain rfl : c0 = .int .i64 i := by simpa using hi
  obtain rfl : c1 = .int .u64 x := by simpa using hx
  obtain rfl : c2 = .int .i64 b := by simpa using hb
  simp [IntKind.min, IntKind.max, IntKind.signed, IntKind.bits] at hx1 hx2 hb1 hb2
  obtain ⟨x, rfl⟩ := Int.eq_ofNat_of_zero_le hx1
  refine ((CountsOne_c (h := W.heap) hB (by omega) (by omega) (K := fun v h' => v = .bool true ∧ Ext W.heap h') (fun h' e => ⟨rfl, e⟩)).out W rfl).mono fun e W' ⟨v, he, hs, hv, hx⟩ => ?_
  exact ⟨v, he, hv ▸ law_post laidOut (by kernel_rfl) rfl (tb := 4) (by kernel_rfl) (by kernel_rfl) hW' (fun hg => by rw [hg]; rfl) (below_of hs hx)⟩

theorem proved : Rows.CountsOneSaid :=
  OpenClaim.holds_of_wide 9 Try.f9 rfl rfl rfl rfl rfl rfl rfl ⟨rfl, rfl, rfl, rfl, rfl⟩ rfl rfl rfl rfl rfl (by kernel_rfl) Try.func9 (by kernel_rfl)
    (of_decide_eq_true (by kernel_rfl)) (by unfold Func.isWrapper; first | (rw [if_pos (by decide +kernel)]; kernel_rfl) | (rw [if_neg (by decide +kernel)]; exact ⟨rfl, rfl⟩))
    (fun os started H enc _ => lifted os started H enc)
end Go.Proofs.Ytmppolccfjfoaaa.countsOne
