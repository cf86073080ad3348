/- Counts: the reference's writing; reading and writing as a whole. -/
import Derived.Test.YtmppolccfjfoaaaCounts2
set_option linter.unusedSimpArgs false
set_option linter.unusedVariables false
namespace Go.Proofs.Ytmppolccfjfoaaa
open Go.Vc
variable {K : Value → Heap → Prop} {h : Heap}

theorem tb_flip {b : UInt8} {t j : Nat} (ht : t < 8) (hj : j < 8) : (UInt8.ofNat (b.toNat ^^^ 2 ^ t % 256)).toNat.testBit j = if j = t then !b.toNat.testBit j else b.toNat.testBit j := by
  have h1 : 2 ^ t % 256 = 1 * 2 ^ t % 256 := by rw [Nat.one_mul]
  rw [UInt8.toNat_ofNat', Nat.testBit_mod_two_pow, Nat.testBit_xor, h1, tb_mul]
  simp only [hj, decide_true, Bool.true_and]
  by_cases e : j = t
  · subst e; simp
  · rw [if_neg e]
    have : (decide (t ≤ j) && Nat.testBit 1 (j - t)) = false := by
      by_cases h2 : t ≤ j
      · have h3 : Nat.testBit 1 (j - t) = false := by
          cases hb : Nat.testBit 1 (j - t) with
          | false => rfl
          | true => have := Nat.testBit_one_eq_true_iff_self_eq_zero.1 hb; omega
        simp [h3]
      · simp [h2]
    rw [this]; simp

theorem With_c {o : Int} {n x : Nat} {v : Value} {l : List UInt8} (hB : Bytes h v l) (hl : l.length < 1000000000) (hw : wd o ≠ 0) (hn : n * wd o + wd o ≤ 8 * l.length) (hx : x < 18446744073709551616)
    (H : ∀ v' h', OwnS 1 h' v' ((setC l (wd o) n x).map byteV) → Ext h h' → (∀ b, blkV v' = some b → h.size ≤ b) → K v' h') :
    CallsH Try.prog 51 #[v, .int .i64 o, .int .i64 n, .int .u64 x] h K ⟨⟩ := by
  have hwp := wok_pos (wok_wd hw)
  obtain ⟨a, c, rfl⟩ := hB.form
  refine n51_calls ?_
  unfold n51
  refine RefWidth_c ?_
  generalize hwo : wd o = w at *
  generalize hp : n * w = p at *
  have hpi : (n : Int) * (w : Int) = p := by rw [← hp]; push_cast; rfl
  refine Hp_appB (e := 5) (l := []) (by kernel_rfl) (by kernel_rfl) .nil hB (by simp; omega) fun v2 h2 hO2 hM2 hF2 _ => ?_
  have hE2 : Ext h h2 := hM2.ext (fun b _ e => by cases e)
  have hlt2 : ∀ b, blkV v2 = some b → h.size ≤ b := fun b hb => (hF2 b hb).resolve_left (by rintro ⟨⟩)
  simp only [List.nil_append] at hO2
  have hne : l.map byteV ≠ [] := fun e => by have := congrArg List.length e; simp at this; rw [this] at hn; simp at hn; omega
  refine (hO2.nonnil hne).elim fun B hx2 => hx2.elim fun m hx2 => hx2.elim fun c2 hx2 => ?_
  have hv := hx2.1
  have hm : l.length = m := by simpa using hx2.2.1
  rw [← hm] at hv
  have H2 : ∀ h', OwnS 1 h' (.slice (some ⟨B, 0, none⟩) l.length c2) ((setC l w n x).map byteV) → Ext h h' → K v2 h' := fun h' a b => H v2 h' (by rw [hv]; exact a) b hlt2
  rw [hv] at hO2 hlt2
  clear hx2 hF2 hM2 H
  obtain ⟨F, hF⟩ : ∃ F : Nat → Nat, ∀ k, F k = x / 2 ^ k := ⟨_, fun _ => rfl⟩
  have hFb : ∀ k, x.testBit k = decide (F k % 2 = 1) := fun k => by rw [Nat.testBit_eq_decide_div_mod_eq, hF]
  refine loopA2 (fun k : Nat => .int .u64 (F k)) (fun k : Nat => .int .i64 k) (fun k h' => k ≤ w ∧ Mod (· = B) h2 h' ∧ ∃ L : List UInt8, L.length = l.length ∧ OwnS 1 h' (.slice (some ⟨B, 0, none⟩) l.length c2) (L.map byteV) ∧
      ∀ j, j < 8 * l.length → (leN L).testBit j = if p ≤ j ∧ j < p + k then x.testBit (j - p) else (leN l).testBit j) (fun k => w - k) 0 ⟨by simp [hF], rfl⟩ ⟨by omega, Mod.refl _ _, l, rfl, hO2, fun j hj => by rw [if_neg (by omega)]⟩ ?_
  rintro k h' ⟨hk, hM, hL⟩
  refine hL.elim fun L hL => ?_
  have hLl := hL.1
  have hO := hL.2.1
  have hLb := hL.2.2
  clear hL
  by_cases hkw : k = w
  · subst hkw
    simp (disch := omega) [hv]
    have e : L = setC l k n x := setC_is hLl (by omega) (by rw [hp]; exact hLb)
    rw [e] at hO
    rw [← hv]
    exact H2 _ hO (hM.ext_from hE2 (fun b hb hb' => by have := hlt2 b (by rw [hb']; rfl); omega))
  · have hq : (p + k) / 8 < L.length := by omega
    have k1 := hO.set1 (x := UInt8.ofNat ((L[(p + k) / 8]).toNat ^^^ 2 ^ ((p + k) % 8) % 256)) (k := (p + k) / 8) hq
    have hbd := shr_bd (L[(p + k) / 8]) ((p + k) % 8)
    have hbit : (leN L).testBit (p + k) = decide ((L[(p + k) / 8]).toNat / 2 ^ ((p + k) % 8) % 2 = 1) := by rw [tb_leN L _ hq, Nat.testBit_eq_decide_div_mod_eq]
    have hbI : ((L[(p + k) / 8]).toNat : Int) / 2 ^ ((p + k) % 8) % 2 = (((L[(p + k) / 8]).toNat / 2 ^ ((p + k) % 8) % 2 : Nat) : Int) := by push_cast; rfl
    have hz2 : (L[(p + k) / 8]).toNat / 2 ^ ((p + k) % 8) % 2 < 2 := Nat.mod_lt _ (by omega)
    have hM2 : 2 ^ ((p + k) % 8) % 256 < 256 := Nat.mod_lt _ (by omega)
    have hst : ∀ j, j < 8 * l.length → (leN (L.set ((p + k) / 8) (UInt8.ofNat ((L[(p + k) / 8]).toNat ^^^ 2 ^ ((p + k) % 8) % 256)))).testBit j = if j = p + k then !(leN L).testBit j else (leN L).testBit j := by
      intro j hj
      rw [tb_set hq j (by omega)]
      by_cases e : j / 8 = (p + k) / 8
      · rw [if_pos e, tb_flip (by omega) (by omega), tb_leN L j (by omega)]
        simp only [e]
        by_cases e2 : j = p + k
        · rw [if_pos (by omega), if_pos e2]
        · rw [if_neg (by omega), if_neg e2]
      · rw [if_neg e, if_neg (by omega)]
    have hkk : (leN L).testBit (p + k) = (leN l).testBit (p + k) := by rw [hLb _ (by omega), if_neg (by omega)]
    obtain ⟨b1, hb1⟩ : ∃ b1, b1 = UInt8.ofNat ((L[(p + k) / 8]).toNat ^^^ 2 ^ ((p + k) % 8) % 256) := ⟨_, rfl⟩
    rw [← hb1] at k1 hst
    have t1 : (((p : Int) + k) / 8).toNat = (p + k) / 8 := by omega
    have t2 : (((p : Int) + k) % 8).toNat = (p + k) % 8 := by omega
    have hFs : F (k + 1) = F k / 2 := by rw [hF, hF, Nat.pow_succ, Nat.div_div_eq_div_mul]
    have hFk : F k ≤ x := by rw [hF]; exact Nat.div_le_self _ _
    have hx1 := hFb k
    generalize hZ : (L[(p + k) / 8]).toNat / 2 ^ ((p + k) % 8) % 2 = Z at *
    have hmI : (2 : Int) ^ ((p + k) % 8) % 256 = ((2 ^ ((p + k) % 8) % 256 : Nat) : Int) := by rw [Int.natCast_emod, Int.natCast_pow]; rfl
    by_cases hzz : Z = F k % 2
    · have hzi : (Z : Int) = (F k : Int) % 2 := by omega
      simp (disch := omega) [hv, hpi, k1.1, t1, t2, Hp_shrB, hbI, hzi]
      refine JoinN.mk ?_
      simp (disch := omega)
      refine ⟨k + 1, by rw [hFs, Int.natCast_ediv]; rfl, by simp, ⟨by omega, hM, L, hLl, hO, fun j hj => ?_⟩, by omega⟩
      by_cases e : j = p + k
      · rw [e, if_pos (by omega), hbit, Nat.add_sub_cancel_left, hx1, hzz]
      · rw [hLb j hj]
        by_cases e2 : p ≤ j ∧ j < p + k
        · rw [if_pos e2, if_pos (by omega)]
        · rw [if_neg e2, if_neg (by omega)]
    · have hzi : ¬ (Z : Int) = (F k : Int) % 2 := by omega
      simp (disch := omega) [hv, hpi, k1.1, k1.2.1, t1, t2, Hp_shrB, hbI, hzi]
      refine JoinN.mk ?_
      simp (disch := omega) [hv, hpi, k1.1, k1.2.1, t1, t2, Hp_shrB, hbI, hzi, Hp_shl_u8, Hp_xorN hmI hM2 hb1, stB]
      refine ⟨k + 1, by rw [hFs, Int.natCast_ediv]; rfl, by simp, ⟨by omega, hM.trans (Mod.setE _ _ _ _) (fun _ _ e => e), _, by simpa using hLl, k1.2.2, fun j hj => ?_⟩, by omega⟩
      rw [hst j hj]
      by_cases e : j = p + k
      · rw [if_pos e, e, if_pos (by omega), hbit, Nat.add_sub_cancel_left, hx1]
        have : Z < 2 := hz2
        have h3 : F k % 2 < 2 := Nat.mod_lt _ (by omega)
        by_cases h1 : Z = 1
        · have h2 : F k % 2 = 0 := by omega
          simp [h1, h2]
        · have h2 : F k % 2 = 1 := by omega
          simp [h1, h2]
      · rw [if_neg e, hLb j hj]
        by_cases e2 : p ≤ j ∧ j < p + k
        · rw [if_pos e2, if_pos (by omega)]
        · rw [if_neg e2, if_neg (by omega)]
end Go.Proofs.Ytmppolccfjfoaaa
