/- Heads: small parts. -/
import Derived.Test.YtgnmjcljljfldaaNiceH
import Derived.Test.YtgnmjcljljfldaaTab2
set_option linter.unusedSimpArgs false
set_option linter.unusedVariables false
namespace Go.Proofs.Ytgnmjcljljfldaa
open Go.Vc
variable {K : Value → Heap → Prop} {h : Heap}

/-- A head. -/
structure Hd where
  bits : Int
  flags : Nat
  size : Int
  l1 : Int
  l1len : Int
  order : Int
  counts : Int
  clen : Int
  snaps : Int
  sat : Int
  slen : Int
  maps : Int
  mat : Int
  mlen : Int
  back : List UInt8
deriving DecidableEq
def Hd.cells (x : Hd) : List Value := [.int .i64 x.bits, .int .u64 x.flags, .int .i64 x.size, .int .i64 x.l1, .int .i64 x.l1len, .int .i64 x.order, .int .i64 x.counts, .int .i64 x.clen, .int .i64 x.snaps, .int .i64 x.sat, .int .i64 x.slen, .int .i64 x.maps, .int .i64 x.mat, .int .i64 x.mlen, str x.back]
def Hd.val (x : Hd) : Value := .agg x.cells.toArray
/-- A head's cells in the heap. -/
def HdAt (h : Heap) (b : Nat) (x : Hd) : Prop :=
  hcell h ⟨b, 0, none⟩ = some (.int .i64 x.bits) ∧ hcell h ⟨b, 1, none⟩ = some (.int .u64 x.flags) ∧ hcell h ⟨b, 2, none⟩ = some (.int .i64 x.size) ∧ hcell h ⟨b, 3, none⟩ = some (.int .i64 x.l1) ∧ hcell h ⟨b, 4, none⟩ = some (.int .i64 x.l1len) ∧
  hcell h ⟨b, 5, none⟩ = some (.int .i64 x.order) ∧ hcell h ⟨b, 6, none⟩ = some (.int .i64 x.counts) ∧ hcell h ⟨b, 7, none⟩ = some (.int .i64 x.clen) ∧ hcell h ⟨b, 8, none⟩ = some (.int .i64 x.snaps) ∧ hcell h ⟨b, 9, none⟩ = some (.int .i64 x.sat) ∧
  hcell h ⟨b, 10, none⟩ = some (.int .i64 x.slen) ∧ hcell h ⟨b, 11, none⟩ = some (.int .i64 x.maps) ∧ hcell h ⟨b, 12, none⟩ = some (.int .i64 x.mat) ∧ hcell h ⟨b, 13, none⟩ = some (.int .i64 x.mlen) ∧ hcell h ⟨b, 14, none⟩ = some (str x.back)
theorem HdAt.ext {h' : Heap} {b : Nat} {x : Hd} (a : HdAt h b x) (e : Ext h h') : HdAt h' b x := by
  obtain ⟨a0, a1, a2, a3, a4, a5, a6, a7, a8, a9, a10, a11, a12, a13, a14⟩ := a
  exact ⟨hcell_ext e a0, hcell_ext e a1, hcell_ext e a2, hcell_ext e a3, hcell_ext e a4, hcell_ext e a5, hcell_ext e a6, hcell_ext e a7, hcell_ext e a8, hcell_ext e a9, hcell_ext e a10, hcell_ext e a11, hcell_ext e a12, hcell_ext e a13, hcell_ext e a14⟩
theorem HdAt.new (x : Hd) : HdAt (h.push (.cells x.cells.toArray 47)) h.size x := by
  unfold HdAt Hd.cells
  simp
/-- An argument that is a head goes into a block of its own. -/
theorem boxH {x : Hd} : Hp Try.prog false (Instr.box 47 x.val) K h ⟨⟩ ↔ K (.pointer (some ⟨h.size, 0, none⟩)) (h.push (.cells x.cells.toArray 47)) := by
  unfold Hd.val Hd.cells
  simp (disch := omega)
theorem loadH {q : Bool} {b : Nat} {x : Hd} (a : HdAt h b x) : Hp Try.prog q (Instr.loadAt 47 (.pointer (some ⟨b, 0, none⟩))) K h ⟨⟩ ↔ K x.val h := by
  obtain ⟨a0, a1, a2, a3, a4, a5, a6, a7, a8, a9, a10, a11, a12, a13, a14⟩ := a
  unfold Hd.val Hd.cells
  simp [a0, a1, a2, a3, a4, a5, a6, a7, a8, a9, a10, a11, a12, a13, a14]

/-- A quotient, rounded up. -/
def upQ (a b : Int) : Int := (a + b - 1) / b
theorem div_c {a b : Int} (ha : 0 ≤ a) (ha2 : a ≤ 4611686018427387904) (hb : 1 ≤ b) (hb2 : b ≤ 65536) (H : K (.int .i64 (upQ a b)) h) : CallsH Try.prog 68 #[.int .i64 a, .int .i64 b] h K ⟨⟩ := by
  refine n68_calls ?_
  unfold n68
  simp (disch := omega)
  exact H
theorem upQ_le {a b : Int} (ha : 0 ≤ a) (hb : 1 ≤ b) : 0 ≤ upQ a b ∧ upQ a b ≤ a := by
  unfold upQ
  refine ⟨Int.ediv_nonneg (by omega) (by omega), ?_⟩
  rcases Int.lt_or_le 0 a with h | h
  · have h1 : (a + b - 1) ≤ a * b := by
      have : (a - 1) * (b - 1) ≥ 0 := Int.mul_nonneg (by omega) (by omega)
      rw [Int.sub_mul, Int.mul_sub, Int.mul_one, Int.one_mul] at this
      omega
    exact (Int.ediv_le_iff_le_mul (by omega)).2 (by omega)
  · obtain rfl : a = 0 := by omega
    rw [Int.ediv_eq_zero_of_lt (by omega) (by omega)]
    omega
theorem upQ_eq {a b : Int} (ha : 0 ≤ a) (hb : 1 ≤ b) : upQ a b = if a % b = 0 then a / b else a / b + 1 := by
  unfold upQ
  have h1 := Int.emod_add_mul_ediv a b
  have h2 := Int.emod_nonneg a (show b ≠ 0 by omega)
  have h3 := Int.emod_lt_of_pos a (show 0 < b by omega)
  generalize a / b = d at *
  generalize a % b = r at *
  have e : a + b - 1 = (r + b - 1) + b * d := by omega
  rw [e, Int.add_mul_ediv_left _ _ (by omega)]
  by_cases hr : r = 0
  · rw [if_pos hr, Int.ediv_eq_zero_of_lt (by omega) (by omega)]; omega
  · rw [if_neg hr]
    have : (r + b - 1) / b = 1 := by
      rw [Int.ediv_eq_iff_of_pos (by omega)]; omega
    omega
theorem Up_c {a b : Int} (ha : 0 ≤ a) (ha2 : a ≤ 4611686018427387904) (hb : 1 ≤ b) (hb2 : b ≤ 65536) (H : K (.int .i64 (upQ a b)) h) : CallsH Try.prog 70 #[.int .i64 a, .int .i64 b] h K ⟨⟩ := by
  rw [upQ_eq ha hb] at H
  have h1 := Int.ediv_nonneg ha (show 0 ≤ b by omega)
  have h2 : a / b ≤ a := Int.ediv_le_self b ha
  refine n70_calls ?_
  unfold n70
  by_cases hm : a % b = 0
  · rw [if_pos hm] at H
    simp (disch := omega) [hm]
    exact H
  · rw [if_neg hm] at H
    simp (disch := omega) [hm]
    exact H
/-- How many tables. -/
def Hd.guest (x : Hd) : Int := upQ x.size (2 ^ x.bits.toNat)
def Hd.tables (x : Hd) : Int := upQ x.guest (2 ^ x.bits.toNat / 8)

theorem tables_c {x : Hd} (h0 : 9 ≤ x.bits) (h1 : x.bits ≤ 16) (s0 : 0 ≤ x.size) (s1 : x.size ≤ 67108864) (H : ∀ h', Ext h h' → K (.int .i64 x.tables) h') : CallsH Try.prog 60 #[x.val] h K ⟨⟩ := by
  have hc := clus h0 h1
  refine n60_calls ?_
  unfold n60
  rw [boxH]
  have hA := HdAt.new (h := h) x
  have e1 : Ext h (h.push (.cells x.cells.toArray 47)) := (by repeat' (first | (with_reducible exact Ext.refl _) | (with_reducible assumption) | (with_reducible refine push_ext ?_) | (with_reducible refine hset_ext ?_ ?_) | (with_reducible refine Ext.trans ?_ (by assumption)) | omega | (simp; done) | (simp; omega) | (refine Ext.size ?_) | (refine Nat.le_succ_of_le (Ext.size ?_))))
  generalize h.push (.cells x.cells.toArray 47) = g at *
  have hw : IntKind.i64.wrap (2 ^ x.bits.toNat) = 2 ^ x.bits.toNat := wrap_i64 (by omega) (by omega)
  simp (disch := omega) [hA.1, hA.2.2.1, Hp_shl, IntKind.bits, hw]
  have hg := upQ_le (b := 2 ^ x.bits.toNat) s0 (by omega)
  refine div_c s0 (by omega) (by omega) (by omega) ?_
  simp (disch := omega)
  refine div_c hg.1 (by omega) (by omega) (by omega) ?_
  exact H _ e1
theorem RGuest_c {x : Hd} (h0 : 9 ≤ x.bits) (h1 : x.bits ≤ 16) (s0 : 0 ≤ x.size) (s1 : x.size ≤ 67108864) (H : ∀ h', Ext h h' → K (.int .i64 x.guest) h') : CallsH Try.prog 29 #[x.val] h K ⟨⟩ := by
  have hc := clus h0 h1
  refine n29_calls ?_
  unfold n29
  rw [boxH]
  have hA := HdAt.new (h := h) x
  have e1 : Ext h (h.push (.cells x.cells.toArray 47)) := (by repeat' (first | (with_reducible exact Ext.refl _) | (with_reducible assumption) | (with_reducible refine push_ext ?_) | (with_reducible refine hset_ext ?_ ?_) | (with_reducible refine Ext.trans ?_ (by assumption)) | omega | (simp; done) | (simp; omega) | (refine Ext.size ?_) | (refine Nat.le_succ_of_le (Ext.size ?_))))
  generalize h.push (.cells x.cells.toArray 47) = g at *
  simp (disch := omega) [hA.1, hA.2.2.1]
  refine Cluster_c (by omega) (by omega) ?_
  simp (disch := omega) [hA.1, hA.2.2.1]
  refine Up_c s0 (by omega) (by omega) (by omega) ?_
  exact H _ e1
theorem RTables_c {x : Hd} (h0 : 9 ≤ x.bits) (h1 : x.bits ≤ 16) (s0 : 0 ≤ x.size) (s1 : x.size ≤ 67108864) (H : ∀ h', Ext h h' → K (.int .i64 x.tables) h') : CallsH Try.prog 30 #[x.val] h K ⟨⟩ := by
  have hc := clus h0 h1
  refine n30_calls ?_
  unfold n30
  rw [boxH]
  have hA := HdAt.new (h := h) x
  have e1 : Ext h (h.push (.cells x.cells.toArray 47)) := (by repeat' (first | (with_reducible exact Ext.refl _) | (with_reducible assumption) | (with_reducible refine push_ext ?_) | (with_reducible refine hset_ext ?_ ?_) | (with_reducible refine Ext.trans ?_ (by assumption)) | omega | (simp; done) | (simp; omega) | (refine Ext.size ?_) | (refine Nat.le_succ_of_le (Ext.size ?_))))
  generalize h.push (.cells x.cells.toArray 47) = g at *
  simp (disch := omega) [hA.1, hA.2.2.1, loadH hA]
  have hg := upQ_le (b := 2 ^ x.bits.toNat) s0 (by omega)
  refine RGuest_c h0 h1 s0 s1 fun h2 e2 => ?_
  have hA2 := hA.ext e2
  simp (disch := omega) [hA2.1, hA2.2.2.1]
  refine Cluster_c (by omega) (by omega) ?_
  simp (disch := omega)
  refine Up_c hg.1 (by unfold Hd.guest; omega) (by omega) (by omega) ?_
  exact H _ (e1.trans e2)

/-- A list's place that may be. -/
def ListOk (n p l b : Int) : Prop := n = 0 ∧ p = 0 ∧ l = 0 ∨ 0 < n ∧ n ≤ 64 ∧ PlaceOk p b ∧ 1 ≤ l ∧ l ≤ 65536
instance (n p l b : Int) : Decidable (ListOk n p l b) := by unfold ListOk; infer_instance
theorem placeH_c {p b : Int} {B : Nat} (h0 : 9 ≤ b) (h1 : b ≤ 16) (hB : hcell h ⟨B, 0, none⟩ = some (.int .i64 (2 ^ b.toNat))) (H : K (.bool (decide (PlaceOk p b))) h) : CallsH Try.prog 58 #[.int .i64 p, .pointer (some ⟨B, 0, none⟩)] h K ⟨⟩ := by
  have hc := clus h0 h1
  unfold PlaceOk at H
  refine n58_calls ?_
  unfold n58
  by_cases hp : 0 < p
  · by_cases hp2 : p ≤ 268435456
    · by_cases hm : p % 2 ^ b.toNat = 0
      · simp (disch := omega) [hB, hm]
        simpa [hp, hp2, hm] using H
      · simp (disch := omega) [hB, hm]
        simpa [hp, hp2, hm] using H
    · simp (disch := omega) [hp2]
      simpa [hp2] using H
  · simp (disch := omega) [hp]
    simpa [hp] using H
theorem listH_c {n p l b : Int} {B C : Nat} (h0 : 9 ≤ b) (h1 : b ≤ 16) (hB : hcell h ⟨B, 0, none⟩ = some (.int .i64 (2 ^ b.toNat))) (hC : hcell h ⟨C, 0, none⟩ = some (.func (.func 58) #[] #[.pointer (some ⟨B, 0, none⟩)])) (H : K (.bool (decide (ListOk n p l b))) h) :
    CallsH Try.prog 59 #[.int .i64 n, .int .i64 64, .int .i64 p, .int .i64 l, .pointer (some ⟨C, 0, none⟩)] h K ⟨⟩ := by
  unfold ListOk at H
  refine n59_calls ?_
  unfold n59
  by_cases hn : n = 0
  · by_cases hp : p = 0
    · by_cases hl : l = 0
      · simp (disch := omega) [hn, hp, hl]
        simpa [hn, hp, hl] using H
      · simp (disch := omega) [hn, hp, hl]
        simpa [hn, hp, hl] using H
    · simp (disch := omega) [hn, hp]
      simpa [hn, hp] using H
  · by_cases hn1 : 0 < n
    · by_cases hn2 : n ≤ 64
      · simp (disch := omega) [hC]
        refine InvokeH_func (by kernel_rfl) ?_
        refine placeH_c h0 h1 hB ?_
        by_cases hp : PlaceOk p b
        · by_cases hl : 1 ≤ l
          · by_cases hl2 : l ≤ 65536
            · simp (disch := omega) [hp]
              simpa [hn, hn1, hn2, hp, hl, hl2] using H
            · simp (disch := omega) [hp, hl2]
              simpa [hn, hn1, hn2, hp, hl, hl2] using H
          · simp (disch := omega) [hp, hl]
            simpa [hn, hn1, hn2, hp, hl] using H
        · simp (disch := omega) [hp]
          simpa [hn, hn1, hn2, hp] using H
      · simp (disch := omega) [hn, hn2]
        simpa [hn, hn1, hn2] using H
    · simp (disch := omega) [hn, hn1]
      simpa [hn, hn1] using H
theorem RList_c {n p l b : Int} (h0 : 9 ≤ b) (h1 : b ≤ 16) (H : K (.bool (decide (ListOk n p l b))) h) : CallsH Try.prog 63 #[.int .i64 n, .int .i64 p, .int .i64 l, .int .i64 b] h K ⟨⟩ := by
  unfold ListOk at H
  refine n63_calls ?_
  unfold n63
  by_cases hn : n = 0
  · by_cases hp : p = 0
    · by_cases hl : l = 0
      · simp (disch := omega) [hn, hp, hl]
        simpa [hn, hp, hl] using H
      · simp (disch := omega) [hn, hp, hl]
        simpa [hn, hp, hl] using H
    · simp (disch := omega) [hn, hp]
      simpa [hn, hp] using H
  · by_cases hn1 : 0 < n
    · by_cases hn2 : n ≤ 64
      · simp (disch := omega)
        refine Place_c h0 h1 (fun hp => ?_) (fun hp => ?_)
        · have hp : PlaceOk p b := hp
          by_cases hl : 1 ≤ l
          · by_cases hl2 : l ≤ 65536
            · simp (disch := omega)
              simpa [hn, hn1, hn2, hp, hl, hl2] using H
            · simp (disch := omega) [hl2]
              simpa [hn, hn1, hn2, hp, hl, hl2] using H
          · simp (disch := omega) [hl]
            simpa [hn, hn1, hn2, hp, hl] using H
        · have hp : ¬ PlaceOk p b := hp
          simp (disch := omega)
          simpa [hn, hn1, hn2, hp] using H
      · simp (disch := omega) [hn, hn2]
        simpa [hn, hn1, hn2] using H
    · simp (disch := omega) [hn, hn1]
      simpa [hn, hn1] using H
end Go.Proofs.Ytgnmjcljljfldaa
