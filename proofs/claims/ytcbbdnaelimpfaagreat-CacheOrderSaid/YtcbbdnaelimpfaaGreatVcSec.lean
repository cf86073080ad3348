/- Bytes of one's own: parts read, written over, cleared; shifts and masks of numbers that are not below 0. -/
import Derived.Test.YtcbbdnaelimpfaaGreatVcStr
import Derived.Test.YtcbbdnaelimpfaaGreatBytes
namespace Go.Vc
open Go
set_option linter.unusedSimpArgs false
set_option linter.unusedVariables false
set_option linter.unusedSectionVars false
section
variable {P : Program} {q : Bool} {K : Value → Heap → Prop} {h : Heap}

theorem OwnT.seg {e B n c : Nat} {L : List UInt8} (o : OwnT e 1 h (.slice (some ⟨B, 0, none⟩) n c) (L.map byteV)) : L.length = n ∧ n ≤ c ∧ At h ⟨B, 0, none⟩ L := by
  have hs := o.own.seg
  simp only [List.length_map, Nat.mul_one] at hs
  exact ⟨hs.1, hs.2.1, At_seg.2 hs.2.2⟩
theorem OwnT.part {e B n c lo hi c' : Nat} {L : List UInt8} (o : OwnT e 1 h (.slice (some ⟨B, 0, none⟩) n c) (L.map byteV)) (h0 : lo ≤ hi) (h1 : hi ≤ n) (h2 : hi - lo ≤ c') : Bytes h (.slice (some (sub ⟨B, 0, none⟩ lo c)) (hi - lo) c') ((L.take hi).drop lo) := by
  obtain ⟨hl, hc, ha⟩ := o.seg
  refine .inr ⟨_, c', by congr 1; simp; omega, by simp; omega, ?_⟩
  exact ha.part lo hi c h0 (by omega) (by omega)
theorem OwnT.over {e B n c k : Nat} {L new : List UInt8} (o : OwnT e 1 h (.slice (some ⟨B, 0, none⟩) n c) (L.map byteV)) (hk : k + new.length ≤ n) : OwnT e 1 (hwrite h ⟨B, 0, none⟩ k (new.map byteV)) (.slice (some ⟨B, 0, none⟩) n c) ((Vc.over L k new).map byteV) := by
  rcases o with ⟨hv, -⟩ | ⟨b', n', c', rest, hv, h1, h2, h3, h4⟩
  · cases hv
  · cases hv
    simp only [List.length_map, Nat.mul_one] at h1
    have hle : k + (new.map byteV).length ≤ (L.map byteV ++ rest).length := by simp; omega
    refine .inr ⟨B, n, c, rest, rfl, by simp [over_length (l := L) (new := new) (k := k) (by omega), h1], h2, ?_, ?_⟩
    · rw [hwrite_of_block (new.map byteV) h k (L.map byteV ++ rest) h3 hle]
      congr 3
      rw [over_map]
      unfold Vc.over
      have hk1 : k ≤ L.length := by omega
      have hk2 : k + new.length ≤ L.length := by omega
      simp only [List.length_map]
      rw [List.take_append_of_le_length (by simpa using hk1), List.drop_append_of_le_length (by simpa using hk2)]
      simp only [List.append_assoc]
    · rw [← h4]; simp [over_length (l := L) (new := new) (k := k) (by omega)]
theorem Hp_shlW {t : TypeId} {x y : Operand} {k' : IntKind} {a : Int} {b w : Nat} (hw : 2 ^ b = w) (hb : b < 64) (h0 : 0 ≤ a) (h1 : a * w < 9223372036854775808) : Hp P q (binS .shl t x y (.int .i64 a) (.int k' (b : Int))) K h ⟨⟩ ↔ ValI (a * (w : Int)) (fun n => K (.int .i64 n) h) ⟨⟩ := by
  rw [Hp_shl (by omega)]
  have e1 : min ((b : Int).toNat) IntKind.i64.bits = b := by
    rw [Int.toNat_natCast]; exact Nat.min_eq_left (by show b ≤ 64; omega)
  have e2 : ((2 : Int) ^ b) = (w : Int) := by rw [← hw]; simp
  rw [e1, e2]
  have : IntKind.i64.wrap (a * w) = a * w := wrap_i64 (by have := Int.mul_nonneg h0 (Int.natCast_nonneg w); omega) h1
  rw [this]
theorem Hp_shrW {t : TypeId} {x y : Operand} {k' : IntKind} {a : Int} {b w : Nat} (hw : 2 ^ b = w) (hb : b < 64) (h0 : 0 ≤ a) : Hp P q (binS .shr t x y (.int .i64 a) (.int k' (b : Int))) K h ⟨⟩ ↔ ValI (a / (w : Int)) (fun n => K (.int .i64 n) h) ⟨⟩ := by
  rw [Hp_shr (by omega)]
  have e1 : min ((b : Int).toNat) IntKind.i64.bits = b := by
    rw [Int.toNat_natCast]; exact Nat.min_eq_left (by show b ≤ 64; omega)
  have e2 : ((2 : Int) ^ b) = (w : Int) := by rw [← hw]; simp
  rw [e1, e2, Int.fdiv_eq_ediv_of_nonneg _ (by omega)]
theorem Hp_andW {t : TypeId} {x y : Operand} {a m : Int} {b w : Nat} (hw : 2 ^ b = w) (hm : m = (w : Int) - 1) (hb : b < 63) (h0 : 0 ≤ a) (h1 : a < 9223372036854775808) : Hp P q (binS .and t x y (.int .i64 a) (.int .i64 m)) K h ⟨⟩ ↔ ValI (a % (w : Int)) (fun n => K (.int .i64 n) h) ⟨⟩ := by
  rw [Hp_and]
  obtain ⟨a, rfl⟩ := Int.eq_ofNat_of_zero_le h0
  have hwp : 0 < w := by rw [← hw]; exact Nat.pow_pos (by omega)
  have hwl : w ≤ 9223372036854775808 := by
    rw [← hw]; exact Nat.le_trans (Nat.pow_le_pow_right (by omega) (show b ≤ 63 by omega)) (by decide)
  have hm' : m = ((w - 1 : Nat) : Int) := by rw [hm]; omega
  have e1 : (BitVec.ofInt IntKind.i64.bits (a : Int) &&& BitVec.ofInt IntKind.i64.bits m).toNat = a % w := by
    rw [hm', BitVec.ofInt_natCast, BitVec.ofInt_natCast, BitVec.toNat_and, BitVec.toNat_ofNat, BitVec.toNat_ofNat]
    have hbits : IntKind.i64.bits = 64 := rfl
    rw [hbits]
    rw [Nat.mod_eq_of_lt (show a < 2 ^ 64 by omega), Nat.mod_eq_of_lt (show w - 1 < 2 ^ 64 by omega), ← hw, Nat.and_two_pow_sub_one_eq_mod]
  rw [e1]
  have : IntKind.i64.wrap ((a % w : Nat) : Int) = ((a % w : Nat) : Int) := wrap_i64 (by omega) (by have := Nat.mod_lt a hwp; omega)
  rw [this, Int.natCast_emod]
end
end Go.Vc
