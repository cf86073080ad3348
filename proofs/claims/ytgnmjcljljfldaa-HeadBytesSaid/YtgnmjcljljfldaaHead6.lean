/- Heads: what bytes say. -/
import Derived.Test.YtgnmjcljljfldaaHead5
import Derived.Test.YtgnmjcljljfldaaTextOver
import Derived.Test.YtgnmjcljljfldaaTab10
set_option linter.unusedSimpArgs false
set_option linter.unusedVariables false
namespace Go.Proofs.Ytgnmjcljljfldaa
open Go.Vc
variable {K : Value → Heap → Prop} {h : Heap}

theorem hdB_split {x : Hd} {j : Nat} (hj : j < 14) : ∃ C, hdB x = hdP x j ++ (leB ((hdF x)[j]'hj).1 ((hdF x)[j]'hj).2 ++ C) := by
  have h1 := hdP_succ (x := x) (j := j) hj
  have h2 : ∃ D, hdP x 14 = hdP x (j + 1) ++ D := by
    refine ⟨((hdF x).drop (j + 1)).flatMap fun p => leB p.1 p.2, ?_⟩
    unfold hdP
    rw [List.append_assoc, ← List.flatMap_append, List.take_append_drop]
    rfl
  obtain ⟨D, hD⟩ := h2
  refine ⟨D ++ (fieldB 64 x.back ++ List.replicate 360 0), ?_⟩
  unfold hdB
  rw [hD, h1]
  simp only [List.append_assoc]
/-- A number of a head's bytes. -/
theorem hdB_get {x : Hd} (m : MayH x) {j : Nat} (hj : j < 14) : getR (hdB x) (hdAt[j]'hj : Nat) ((hdF x)[j]'hj).1 = (((hdF x)[j]'hj).2, 0) := by
  obtain ⟨C, hC⟩ := hdB_split (x := x) hj
  have hl := hdB_len m
  have hok := hdF_ok m j hj
  have hp := hdP_len (x := x) hj
  rw [getR_in (by omega) (by omega), hC, ← hp, List.drop_left, List.take_left' (by simp), leN_leB]
  have : (hdF x)[j].2 < 256 ^ (hdF x)[j].1 := by
    rcases hok.2.1 with e | e
    · rw [e, show (256 : Nat) ^ 4 = 4294967296 by decide]; omega
    · rw [e, show (256 : Nat) ^ 8 = 18446744073709551616 by decide]; omega
  rw [Nat.mod_eq_of_lt this]
theorem hdB_text {x : Hd} (m : MayH x) : textR (hdB x) 84 64 = (x.back, 0) := by
  have hbl := m.bd.2.2.2.2
  have hlen : (hdP x 14 ++ List.replicate (68 + 360) (0 : UInt8)).length = 512 := by rw [List.length_append, List.length_replicate, hdP_14]
  have hE : setTextE (hdP x 14 ++ List.replicate (68 + 360) (0 : UInt8)).length 84 64 x.back = 0 := by
    rw [hlen]
    have hF0 : fieldE (512 : Nat) 84 64 = 0 := by unfold fieldE; rw [if_neg (by omega), if_pos (by omega)]
    unfold setTextE
    rw [if_neg (by rw [hF0]; simp), if_neg (by omega)]
  have h1 := textR_over hE
  have h2 := over_zeros (A := hdP x 14) (M := fieldB 64 x.back) (n := 68) (m := 360) (by rw [fieldB_length hbl])
  rw [hdP_14] at h2
  have h3 : hdB x = hdP x 14 ++ fieldB 64 x.back ++ List.replicate 360 0 := by unfold hdB; rw [List.append_assoc]
  rw [h3, ← h2]
  exact h1
/-- A number as it is got. -/
def gotI (l : List UInt8) (p n : Int) : Int := IntKind.i64.wrap (getR l p n).1
/-- The head that bytes say. -/
def hdD (l : List UInt8) : Hd := ⟨gotI l 4 4, (IntKind.u64.wrap (gotI l 8 8)).toNat, gotI l 16 8, gotI l 24 8, gotI l 32 4, gotI l 36 4, gotI l 40 8, gotI l 48 4, gotI l 52 4, gotI l 56 8, gotI l 64 4, gotI l 68 4, gotI l 72 8, gotI l 80 4, (textR l 84 64).1⟩
theorem got_of {l : List UInt8} {p n : Int} {x : Nat} {e : Int} (h : getR l p n = (x, e)) (hx : x ≤ 268435456) : gotI l p n = x := by
  unfold gotI
  rw [h]
  exact wrap_i64 (by omega) (by omega)
set_option maxHeartbeats 1000000 in
theorem hdD_hdB {x : Hd} (m : MayH x) : hdD (hdB x) = x := by
  have b := m.bd
  have t_bits : ((x.bits.toNat : Nat) : Int) = x.bits := Int.toNat_of_nonneg (by omega)
  have t_size : ((x.size.toNat : Nat) : Int) = x.size := Int.toNat_of_nonneg (by omega)
  have t_l1 : ((x.l1.toNat : Nat) : Int) = x.l1 := Int.toNat_of_nonneg (by omega)
  have t_l1len : ((x.l1len.toNat : Nat) : Int) = x.l1len := Int.toNat_of_nonneg (by omega)
  have t_order : ((x.order.toNat : Nat) : Int) = x.order := Int.toNat_of_nonneg (by omega)
  have t_counts : ((x.counts.toNat : Nat) : Int) = x.counts := Int.toNat_of_nonneg (by omega)
  have t_clen : ((x.clen.toNat : Nat) : Int) = x.clen := Int.toNat_of_nonneg (by omega)
  have t_snaps : ((x.snaps.toNat : Nat) : Int) = x.snaps := Int.toNat_of_nonneg (by omega)
  have t_sat : ((x.sat.toNat : Nat) : Int) = x.sat := Int.toNat_of_nonneg (by omega)
  have t_slen : ((x.slen.toNat : Nat) : Int) = x.slen := Int.toNat_of_nonneg (by omega)
  have t_maps : ((x.maps.toNat : Nat) : Int) = x.maps := Int.toNat_of_nonneg (by omega)
  have t_mat : ((x.mat.toNat : Nat) : Int) = x.mat := Int.toNat_of_nonneg (by omega)
  have t_mlen : ((x.mlen.toNat : Nat) : Int) = x.mlen := Int.toNat_of_nonneg (by omega)
  have e1 : (IntKind.u64.wrap (x.flags : Int)).toNat = x.flags := by rw [wrap_u64 (by omega) (by omega)]; simp
  have g : ∀ j (hj : j < 14), gotI (hdB x) (hdAt[j]'hj : Nat) ((hdF x)[j]'hj).1 = ((hdF x)[j]'hj).2 := fun j hj => got_of (hdB_get m hj) (hdF_ok m j hj).2.2
  have ht := hdB_text m
  generalize hdB x = L at g ht ⊢
  have g0 := g 0 (by decide)
  have g1 := g 1 (by decide)
  have g2 := g 2 (by decide)
  have g3 := g 3 (by decide)
  have g4 := g 4 (by decide)
  have g5 := g 5 (by decide)
  have g6 := g 6 (by decide)
  have g7 := g 7 (by decide)
  have g8 := g 8 (by decide)
  have g9 := g 9 (by decide)
  have g10 := g 10 (by decide)
  have g11 := g 11 (by decide)
  have g12 := g 12 (by decide)
  have g13 := g 13 (by decide)
  simp only [hdAt, hdF, List.getElem_cons_zero, List.getElem_cons_succ] at g0 g1 g2 g3 g4 g5 g6 g7 g8 g9 g10 g11 g12 g13
  unfold hdD
  rw [ht]
  have r0 : gotI L 4 4 = x.bits := Eq.trans g0 t_bits
  have r2 : gotI L 16 8 = x.size := Eq.trans g2 t_size
  have r3 : gotI L 24 8 = x.l1 := Eq.trans g3 t_l1
  have r4 : gotI L 32 4 = x.l1len := Eq.trans g4 t_l1len
  have r5 : gotI L 36 4 = x.order := Eq.trans g5 t_order
  have r6 : gotI L 40 8 = x.counts := Eq.trans g6 t_counts
  have r7 : gotI L 48 4 = x.clen := Eq.trans g7 t_clen
  have r8 : gotI L 52 4 = x.snaps := Eq.trans g8 t_snaps
  have r9 : gotI L 56 8 = x.sat := Eq.trans g9 t_sat
  have r10 : gotI L 64 4 = x.slen := Eq.trans g10 t_slen
  have r11 : gotI L 68 4 = x.maps := Eq.trans g11 t_maps
  have r12 : gotI L 72 8 = x.mat := Eq.trans g12 t_mat
  have r13 : gotI L 80 4 = x.mlen := Eq.trans g13 t_mlen
  have r1 : (IntKind.u64.wrap (gotI L 8 8)).toNat = x.flags := by rw [show gotI L 8 8 = x.flags from g1]; exact e1
  rw [r0, r1, r2, r3, r4, r5, r6, r7, r8, r9, r10, r11, r12, r13]
theorem hdB_inj {x y : Hd} (m : MayH x) (m' : MayH y) (e : hdB x = hdB y) : x = y := by
  rw [← hdD_hdB m, e, hdD_hdB m']
end Go.Proofs.Ytgnmjcljljfldaa
