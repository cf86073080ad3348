/- Heads: the reference's reading. -/
import Derived.Test.YtgnmjcljljfldaaHead9
set_option linter.unusedSimpArgs false
set_option linter.unusedVariables false
namespace Go.Proofs.Ytgnmjcljljfldaa
open Go.Vc
variable {K : Value → Heap → Prop} {h : Heap}

/-- A number of 63 bits, else -1. -/
def numR (l : List UInt8) (p n : Nat) : Int := if 4611686018427387904 < leN ((l.drop p).take n) then -1 else leN ((l.drop p).take n)
theorem RNum_c {g : Heap} {v : Value} {l : List UInt8} {p n : Nat} (hB : Bytes g v l) (e : Ext g h) (hl : l.length < 1000000) (hn : n ≤ 8) (h0 : 0 < n) (hp : p + n ≤ l.length) (H : K (.int .i64 (numR l p n)) h) : CallsH Try.prog 53 #[v, .int .i64 p, .int .i64 n] h K ⟨⟩ := by
  obtain ⟨u, hu, su⟩ := slB2 hB (by omega) p (p + n) (by omega) (by omega) (by omega)
  refine n53_calls ?_
  unfold n53
  simp (disch := omega) [su]
  have e1 : (l.take ((p : Int) + n).toNat).drop (p : Int).toNat = (l.drop p).take n := by
    rw [show ((p : Int) + n).toNat = p + n by omega, Int.toNat_natCast, List.drop_take, Nat.add_sub_cancel_left]
  rw [e1] at hu
  refine Value_c (hu.ext e) (by simp; omega) ?_
  have hx := leN_lt8 (l := (l.drop p).take n) (by simp; omega)
  unfold numR at H
  generalize leN ((l.drop p).take n) = z at *
  by_cases hz : 4611686018427387904 < z
  · rw [if_pos hz] at H
    simp (disch := omega)
    exact H
  · rw [if_neg hz] at H
    simp (disch := omega) [Try.cvw45_2]
    exact H
/-- The head that bytes say, by the reference. -/
def hdR (l : List UInt8) : Hd := ⟨numR l 4 4, leN ((l.drop 8).take 8), numR l 16 8, numR l 24 8, numR l 32 4, numR l 36 4, numR l 40 8, numR l 48 4, numR l 52 4, numR l 56 8, numR l 64 4, numR l 68 4, numR l 72 8, numR l 80 4, (l.drop 88).take (leN ((l.drop 84).take 4))⟩
theorem numR_of {l A C : List UInt8} {n x p : Nat} (hl : l = A ++ (leB n x ++ C)) (hp : A.length = p) (hx : x < 256 ^ n) : leN ((l.drop p).take n) = x := by
  subst hl hp
  rw [List.drop_left, List.take_left' (by simp), leN_leB, Nat.mod_eq_of_lt hx]
theorem hdB_num {x : Hd} (m : MayH x) {j : Nat} (hj : j < 14) : leN (((hdB x).drop (hdAt[j]'hj)).take ((hdF x)[j]'hj).1) = ((hdF x)[j]'hj).2 := by
  obtain ⟨C, hC⟩ := hdB_split (x := x) hj
  have hok := hdF_ok m j hj
  refine numR_of hC (hdP_len hj) ?_
  rcases hok.2.1 with e | e
  · rw [e, show (256 : Nat) ^ 4 = 4294967296 by decide]; omega
  · rw [e, show (256 : Nat) ^ 8 = 18446744073709551616 by decide]; omega
theorem hdB_back {x : Hd} (m : MayH x) : leN (((hdB x).drop 84).take 4) = x.back.length ∧ ((hdB x).drop 88).take x.back.length = x.back := by
  have hbl := m.bd.2.2.2.2
  have e : hdB x = hdP x 14 ++ (leB 4 x.back.length ++ (x.back ++ (List.replicate (64 - x.back.length) 0 ++ List.replicate 360 0))) := by
    unfold hdB fieldB
    simp only [List.append_assoc]
  refine ⟨numR_of e hdP_14 (by rw [show (256 : Nat) ^ 4 = 4294967296 by decide]; omega), ?_⟩
  rw [e, ← List.append_assoc, List.drop_left' (by rw [List.length_append, hdP_14, leB_length]), List.take_left]
theorem numR_eq {l : List UInt8} {p n x : Nat} {z : Int} (h : leN ((l.drop p).take n) = x) (hx : x ≤ 268435456) (hz : (x : Int) = z) : numR l p n = z := by
  unfold numR
  rw [h, if_neg (by omega), hz]
set_option maxHeartbeats 1000000 in
theorem hdR_hdB {x : Hd} (m : MayH x) : hdR (hdB x) = x := by
  have b := m.bd
  have t_bits : ((x.bits.toNat : Nat) : Int) = x.bits := Int.toNat_of_nonneg (by omega)
  have t_size : ((x.size.toNat : Nat) : Int) = x.size := Int.toNat_of_nonneg (by omega)
  have t_l1 : ((x.l1.toNat : Nat) : Int) = x.l1 := Int.toNat_of_nonneg (by omega)
  have t_l1len : ((x.l1len.toNat : Nat) : Int) = x.l1len := Int.toNat_of_nonneg (by omega)
  have t_order : ((x.order.toNat : Nat) : Int) = x.order := Int.toNat_of_nonneg (by omega)
  have t_counts : ((x.counts.toNat : Nat) : Int) = x.counts := Int.toNat_of_nonneg (by omega)
  have t_clen : ((x.clen.toNat : Nat) : Int) = x.clen := Int.toNat_of_nonneg (by omega)
  have t_snaps : ((x.snaps.toNat : Nat) : Int) = x.snaps := Int.toNat_of_nonneg (by omega)
  have t_sat : ((x.sat.toNat : Nat) : Int) = x.sat := Int.toNat_of_nonneg (by omega)
  have t_slen : ((x.slen.toNat : Nat) : Int) = x.slen := Int.toNat_of_nonneg (by omega)
  have t_maps : ((x.maps.toNat : Nat) : Int) = x.maps := Int.toNat_of_nonneg (by omega)
  have t_mat : ((x.mat.toNat : Nat) : Int) = x.mat := Int.toNat_of_nonneg (by omega)
  have t_mlen : ((x.mlen.toNat : Nat) : Int) = x.mlen := Int.toNat_of_nonneg (by omega)
  have g : ∀ j (hj : j < 14), leN (((hdB x).drop (hdAt[j]'hj)).take ((hdF x)[j]'hj).1) = ((hdF x)[j]'hj).2 := fun j hj => hdB_num m hj
  have gb := fun j hj => (hdF_ok m j hj).2.2
  have hb := hdB_back m
  generalize hdB x = L at g hb ⊢
  have g0 := g 0 (by decide)
  have k0 := gb 0 (by decide)
  have g1 := g 1 (by decide)
  have k1 := gb 1 (by decide)
  have g2 := g 2 (by decide)
  have k2 := gb 2 (by decide)
  have g3 := g 3 (by decide)
  have k3 := gb 3 (by decide)
  have g4 := g 4 (by decide)
  have k4 := gb 4 (by decide)
  have g5 := g 5 (by decide)
  have k5 := gb 5 (by decide)
  have g6 := g 6 (by decide)
  have k6 := gb 6 (by decide)
  have g7 := g 7 (by decide)
  have k7 := gb 7 (by decide)
  have g8 := g 8 (by decide)
  have k8 := gb 8 (by decide)
  have g9 := g 9 (by decide)
  have k9 := gb 9 (by decide)
  have g10 := g 10 (by decide)
  have k10 := gb 10 (by decide)
  have g11 := g 11 (by decide)
  have k11 := gb 11 (by decide)
  have g12 := g 12 (by decide)
  have k12 := gb 12 (by decide)
  have g13 := g 13 (by decide)
  have k13 := gb 13 (by decide)
  simp only [hdAt, hdF, List.getElem_cons_zero, List.getElem_cons_succ] at g0 k0 g1 k1 g2 k2 g3 k3 g4 k4 g5 k5 g6 k6 g7 k7 g8 k8 g9 k9 g10 k10 g11 k11 g12 k12 g13 k13
  unfold hdR
  rw [hb.1, hb.2, g1]
  rw [numR_eq g0 k0 t_bits]
  rw [numR_eq g2 k2 t_size]
  rw [numR_eq g3 k3 t_l1]
  rw [numR_eq g4 k4 t_l1len]
  rw [numR_eq g5 k5 t_order]
  rw [numR_eq g6 k6 t_counts]
  rw [numR_eq g7 k7 t_clen]
  rw [numR_eq g8 k8 t_snaps]
  rw [numR_eq g9 k9 t_sat]
  rw [numR_eq g10 k10 t_slen]
  rw [numR_eq g11 k11 t_maps]
  rw [numR_eq g12 k12 t_mat]
  rw [numR_eq g13 k13 t_mlen]
end Go.Proofs.Ytgnmjcljljfldaa
