/- Heads: a head's bytes. -/
import Derived.Test.YtgnmjcljljfldaaHead3
import Derived.Test.YtgnmjcljljfldaaTab2
set_option linter.unusedSimpArgs false
set_option linter.unusedVariables false
namespace Go.Proofs.Ytgnmjcljljfldaa
open Go.Vc
variable {K : Value → Heap → Prop} {h : Heap}

/-- What a head that may be keeps to. -/
theorem MayH.bd {x : Hd} (m : MayH x) : (0 ≤ x.bits ∧ x.bits ≤ 16 ∧ x.flags ≤ 1 ∧ 0 ≤ x.size ∧ x.size ≤ 268435456 ∧ 0 ≤ x.l1 ∧ x.l1 ≤ 268435456 ∧ 0 ≤ x.l1len ∧ x.l1len ≤ 268435456 ∧ 0 ≤ x.order ∧ x.order ≤ 6) ∧
    (0 ≤ x.counts ∧ x.counts ≤ 268435456 ∧ 0 ≤ x.clen ∧ x.clen ≤ 65536) ∧ (0 ≤ x.snaps ∧ x.snaps ≤ 64 ∧ 0 ≤ x.sat ∧ x.sat ≤ 268435456 ∧ 0 ≤ x.slen ∧ x.slen ≤ 65536) ∧ (0 ≤ x.maps ∧ x.maps ≤ 64 ∧ 0 ≤ x.mat ∧ x.mat ≤ 268435456 ∧ 0 ≤ x.mlen ∧ x.mlen ≤ 65536) ∧ x.back.length ≤ 64 := by
  obtain ⟨⟨h0, h1, f1, s0, s1, s2⟩, ⟨l0, l1, l2⟩, hl1, ⟨o0, o1⟩, ⟨⟨p0, p1, -⟩, c0, c1⟩, ls, lm, bl, -⟩ := m
  have e1 : 0 ≤ x.l1 ∧ x.l1 ≤ 268435456 := by rcases hl1 with h | ⟨-, h⟩; omega; exact ⟨by have := h.1; omega, h.2.1⟩
  have e2 : 0 ≤ x.snaps ∧ x.snaps ≤ 64 ∧ 0 ≤ x.sat ∧ x.sat ≤ 268435456 ∧ 0 ≤ x.slen ∧ x.slen ≤ 65536 := by rcases ls with h | ⟨h1, h2, h3, h4, h5⟩; omega; have := h3.1; have := h3.2.1; omega
  have e3 : 0 ≤ x.maps ∧ x.maps ≤ 64 ∧ 0 ≤ x.mat ∧ x.mat ≤ 268435456 ∧ 0 ≤ x.mlen ∧ x.mlen ≤ 65536 := by rcases lm with h | ⟨h1, h2, h3, h4, h5⟩; omega; have := h3.1; have := h3.2.1; omega
  exact ⟨by omega, by omega, e2, e3, bl⟩

/-- The numbers of a head: how many bytes, and what. -/
def hdF (x : Hd) : List (Nat × Nat) := [(4, x.bits.toNat), (8, x.flags), (8, x.size.toNat), (8, x.l1.toNat), (4, x.l1len.toNat), (4, x.order.toNat), (8, x.counts.toNat), (4, x.clen.toNat), (4, x.snaps.toNat), (8, x.sat.toNat), (4, x.slen.toNat), (4, x.maps.toNat), (8, x.mat.toNat), (4, x.mlen.toNat)]
def hdAt : List Nat := [4, 8, 16, 24, 32, 36, 40, 48, 52, 56, 64, 68, 72, 80]
def hdP (x : Hd) (j : Nat) : List UInt8 := [80, 65, 76, 49] ++ ((hdF x).take j).flatMap fun p => leB p.1 p.2
/-- A head's bytes. -/
def hdB (x : Hd) : List UInt8 := hdP x 14 ++ (fieldB 64 x.back ++ List.replicate 360 0)
theorem hdP_succ {x : Hd} {j : Nat} (hj : j < (hdF x).length) : hdP x (j + 1) = hdP x j ++ leB (hdF x)[j].1 (hdF x)[j].2 := by
  unfold hdP
  rw [List.take_succ_eq_append_getElem hj, List.flatMap_append]
  simp
theorem hdP_len {x : Hd} {j : Nat} (hj : j < 14) : (hdP x j).length = hdAt[j]'hj := by
  have : j = 0 ∨ j = 1 ∨ j = 2 ∨ j = 3 ∨ j = 4 ∨ j = 5 ∨ j = 6 ∨ j = 7 ∨ j = 8 ∨ j = 9 ∨ j = 10 ∨ j = 11 ∨ j = 12 ∨ j = 13 := by omega
  rcases this with rfl | rfl | rfl | rfl | rfl | rfl | rfl | rfl | rfl | rfl | rfl | rfl | rfl | rfl <;> simp [hdP, hdF, hdAt]
theorem hdP_14 {x : Hd} : (hdP x 14).length = 84 := by simp [hdP, hdF]
theorem hdF_ok {x : Hd} (m : MayH x) : ∀ j (hj : j < 14), ((hdF x)[j]'hj).1 + (hdAt[j]'hj) ≤ 84 ∧ (((hdF x)[j]'hj).1 = 4 ∨ ((hdF x)[j]'hj).1 = 8) ∧ ((hdF x)[j]'hj).2 ≤ 268435456 := by
  intro j hj
  have b := m.bd
  have : j = 0 ∨ j = 1 ∨ j = 2 ∨ j = 3 ∨ j = 4 ∨ j = 5 ∨ j = 6 ∨ j = 7 ∨ j = 8 ∨ j = 9 ∨ j = 10 ∨ j = 11 ∨ j = 12 ∨ j = 13 := by omega
  rcases this with rfl | rfl | rfl | rfl | rfl | rfl | rfl | rfl | rfl | rfl | rfl | rfl | rfl | rfl <;> (simp [hdF, hdAt]; omega)
theorem over_zeros {A M : List UInt8} {n m : Nat} (hM : M.length = n) : over (A ++ List.replicate (n + m) (0 : UInt8)) A.length M = (A ++ M) ++ List.replicate m 0 := by
  unfold over
  rw [List.take_left, hM, List.drop_append]
  simp
theorem hdB_len {x : Hd} (m : MayH x) : (hdB x).length = 512 := by
  have := m.bd.2.2.2.2
  unfold hdB
  simp only [List.length_append, List.length_replicate, hdP_14, fieldB_length this]

theorem fields_c {x : Hd} (m : MayH x) (H : ∀ B h', Ext h h' → (∀ j (hj : j < 14), hcell h' (elt ⟨B, 0, none⟩ (j * 3)) = some (.int .i64 (hdAt[j]'hj : Nat)) ∧ hcell h' (elt ⟨B, 0, none⟩ (j * 3 + 1)) = some (.int .i64 ((hdF x)[j]'hj).1) ∧ hcell h' (elt ⟨B, 0, none⟩ (j * 3 + 2)) = some (.int .u64 ((hdF x)[j]'hj).2)) →
    h.size ≤ B → B < h'.size → K (.slice (some ⟨B, 0, none⟩) 14 14) h') : CallsH Try.prog 55 #[x.val] h K ⟨⟩ := by
  have b := m.bd
  refine n55_calls ?_
  unfold n55
  rw [boxH]
  have hA := HdAt.new (h := h) x
  have e1 : Ext h (h.push (.cells x.cells.toArray 47)) := (by repeat' (first | (with_reducible exact Ext.refl _) | (with_reducible assumption) | (with_reducible refine push_ext ?_) | (with_reducible refine hset_ext ?_ ?_) | (with_reducible refine Ext.trans ?_ (by assumption)) | omega | (simp; done) | (simp; omega) | (refine Ext.size ?_) | (refine Nat.le_succ_of_le (Ext.size ?_))))
  generalize h.push (.cells x.cells.toArray 47) = g at *
  obtain ⟨b0, b1, b2, b3, b4, b5, b6, b7, b8, b9, b10, b11, b12, b13, b14⟩ := hA
  simp (disch := omega) [b0, b1, b2, b3, b4, b5, b6, b7, b8, b9, b10, b11, b12, b13, b14]
  have ez := e1.size
  refine H g.size _ (e1.trans (by repeat' (first | (with_reducible exact Ext.refl _) | (with_reducible assumption) | (with_reducible refine push_ext ?_) | (with_reducible refine hset_ext ?_ ?_) | (with_reducible refine Ext.trans ?_ (by assumption)) | omega | (simp; done) | (simp; omega) | (refine Ext.size ?_) | (refine Nat.le_succ_of_le (Ext.size ?_))))) (fun j hj => ?_) (by omega) (by simp)
  simp only [elt_mk]
  have : j = 0 ∨ j = 1 ∨ j = 2 ∨ j = 3 ∨ j = 4 ∨ j = 5 ∨ j = 6 ∨ j = 7 ∨ j = 8 ∨ j = 9 ∨ j = 10 ∨ j = 11 ∨ j = 12 ∨ j = 13 := by omega
  rcases this with rfl | rfl | rfl | rfl | rfl | rfl | rfl | rfl | rfl | rfl | rfl | rfl | rfl | rfl <;> (refine ⟨?_, ?_, ?_⟩ <;> (simp [hdF, hdAt] <;> omega))
end Go.Proofs.Ytgnmjcljljfldaa
