/- Sorting: words of 64 bits; the length of a number in bits. -/
import Derived.Test.YtlligpgjkmfhpaaSrtK
namespace Go.Vc
open Go Go.Sort
set_option linter.unusedSimpArgs false
set_option linter.unusedVariables false
section
variable {P : Program} {q : Bool} {K : Value → Heap → Prop} {h : Heap}
theorem u64_lt (r : UInt64) : r.toNat < 18446744073709551616 := r.toNat_lt
/-- A word of 64 bits. -/
def w64 (r : UInt64) : Value := .int .u64 (r.toNat : Int)
theorem w64_one (r : UInt64) : one (w64 r) = true := rfl
theorem Hp_shl13 {t : TypeId} {x y : Operand} {k' : IntKind} {r : UInt64} : Hp P q (binS .shl t x y (w64 r) (.int k' 13)) K h ⟨⟩ ↔ K (w64 (r <<< 13)) h := by
  unfold w64
  rw [Hp_shl_u64 (by omega) (by omega), ValI_iff]
  have : IntKind.u64.wrap ((r.toNat : Int) * 2 ^ (13 : Int).toNat) = ((r <<< 13).toNat : Int) := by
    have h1 : (r <<< 13).toNat = r.toNat * 8192 % 18446744073709551616 := by
      rw [UInt64.toNat_shiftLeft, Nat.shiftLeft_eq]; rfl
    rw [h1]
    unfold IntKind.wrap
    simp [IntKind.signed, IntKind.bits]
  rw [this]
theorem Hp_shl17 {t : TypeId} {x y : Operand} {k' : IntKind} {r : UInt64} : Hp P q (binS .shl t x y (w64 r) (.int k' 17)) K h ⟨⟩ ↔ K (w64 (r <<< 17)) h := by
  unfold w64
  rw [Hp_shl_u64 (by omega) (by omega), ValI_iff]
  have : IntKind.u64.wrap ((r.toNat : Int) * 2 ^ (17 : Int).toNat) = ((r <<< 17).toNat : Int) := by
    have h1 : (r <<< 17).toNat = r.toNat * 131072 % 18446744073709551616 := by
      rw [UInt64.toNat_shiftLeft, Nat.shiftLeft_eq]; rfl
    rw [h1]
    unfold IntKind.wrap
    simp [IntKind.signed, IntKind.bits]
  rw [this]
theorem Hp_shr7 {t : TypeId} {x y : Operand} {k' : IntKind} {r : UInt64} : Hp P q (binS .shr t x y (w64 r) (.int k' 7)) K h ⟨⟩ ↔ K (w64 (r >>> 7)) h := by
  unfold w64
  rw [Hp_shr_u64 (by omega) (by omega), ValI_iff]
  have : ((r.toNat : Int) / (2 : Int) ^ (7 : Int).toNat) = ((r >>> 7).toNat : Int) := by
    have h1 : (r >>> 7).toNat = r.toNat / 128 := by
      rw [UInt64.toNat_shiftRight, Nat.shiftRight_eq_div_pow]; rfl
    rw [h1]
    simp
  rw [this]
theorem Hp_xorU {t : TypeId} {x y : Operand} {r s : UInt64} : Hp P q (binS .xor t x y (w64 r) (w64 s)) K h ⟨⟩ ↔ K (w64 (r ^^^ s)) h := by
  unfold w64
  rw [Hp_xor, ValI_iff]
  have : IntKind.u64.wrap ((BitVec.ofInt IntKind.u64.bits (r.toNat : Int) ^^^ BitVec.ofInt IntKind.u64.bits (s.toNat : Int)).toNat : Int) = ((r ^^^ s).toNat : Int) := by
    have h0 := u64_lt (r ^^^ s)
    rw [UInt64.toNat_xor] at h0 ⊢
    show IntKind.u64.wrap (((BitVec.ofNat 64 r.toNat ^^^ BitVec.ofNat 64 s.toNat : BitVec 64).toNat : Nat) : Int) = _
    rw [BitVec.toNat_xor, BitVec.toNat_ofNat, BitVec.toNat_ofNat, Nat.mod_eq_of_lt (u64_lt r), Nat.mod_eq_of_lt (u64_lt s)]
    unfold IntKind.wrap
    simp [IntKind.signed, IntKind.bits]
    omega
  rw [this]

theorem bitsLen_half {n : Nat} (hn : 0 < n) : bitsLen n = bitsLen (n / 2) + 1 := by
  unfold bitsLen
  rw [if_neg (by omega)]
  by_cases h2 : n < 2
  · have : n = 1 := by omega
    subst this; rfl
  · rw [if_neg (by omega), Nat.log2_def n, if_pos (by omega)]
theorem bitsLen_256 {n : Nat} (hn : 256 ≤ n) : bitsLen n = bitsLen (n / 256) + 8 := by
  rw [bitsLen_half (n := n) (by omega), bitsLen_half (n := n / 2) (by omega), bitsLen_half (n := n / 2 / 2) (by omega), bitsLen_half (n := n / 2 / 2 / 2) (by omega), bitsLen_half (n := n / 2 / 2 / 2 / 2) (by omega),
    bitsLen_half (n := n / 2 / 2 / 2 / 2 / 2) (by omega), bitsLen_half (n := n / 2 / 2 / 2 / 2 / 2 / 2) (by omega), bitsLen_half (n := n / 2 / 2 / 2 / 2 / 2 / 2 / 2) (by omega)]
  rw [show n / 2 / 2 / 2 / 2 / 2 / 2 / 2 / 2 = n / 256 by omega]
theorem bitsLen_65536 {n : Nat} (hn : 65536 ≤ n) : bitsLen n = bitsLen (n / 65536) + 16 := by
  rw [bitsLen_256 (by omega), bitsLen_256 (n := n / 256) (by omega), Nat.div_div_eq_div_mul]
theorem bitsLen_pow {n : Nat} (hn : 0 < n) : 2 ^ bitsLen n ≤ 2 * n ∧ n < 2 ^ bitsLen n := by
  unfold bitsLen
  rw [if_neg (by omega), Nat.pow_succ]
  have h1 := Nat.log2_self_le (n := n) (by omega)
  have h2 := Nat.lt_log2_self (n := n)
  rw [Nat.pow_succ] at h2
  omega
theorem bitsLen_le {n : Nat} (hn : n < 16777216) : bitsLen n ≤ 24 := by
  rcases Nat.eq_zero_or_pos n with h | h
  · subst h; decide
  · have := (bitsLen_pow h).1
    refine Nat.le_of_not_lt fun hlt => ?_
    have h3 : 2 ^ 25 ≤ 2 ^ bitsLen n := Nat.pow_le_pow_right (by omega) hlt
    have : (2 : Nat) ^ 25 = 33554432 := by decide
    omega
end
end Go.Vc
