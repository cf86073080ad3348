/- Heads: the reference's bytes. -/
import Derived.Test.YtgnmjcljljfldaaHead8
import Derived.Test.YtgnmjcljljfldaaTab4
set_option linter.unusedSimpArgs false
set_option linter.unusedVariables false
namespace Go.Proofs.Ytgnmjcljljfldaa
open Go.Vc
variable {K : Value → Heap → Prop} {h : Heap}

theorem cvSame {L : List UInt8} (hl : 0 < L.length) (H : ∀ h', OwnS 1 h' (.slice (some ⟨h.size, 0, none⟩) L.length L.length) (L.map byteV) → Ext h h' → K (.slice (some ⟨h.size, 0, none⟩) L.length L.length) h') :
    Hp Try.prog false (convert 26 26 (.slice (some ⟨h.size, 0, none⟩) L.length L.length)) K (h.push (.cells (L.map byteV).toArray 5)) ⟨⟩ := by
  have ht : Try.prog.underlying 26 = some (.slice 5) := by kernel_rfl
  have he : Try.prog.underlying 5 = some (.int .u8) := by kernel_rfl
  rw [Hp_iff]
  unfold convert
  rw [hp_bind', hp_underlying ht, hp_bind', hp_underlying ht]
  simp only
  rw [hp_bind', hp_underlying he]
  simp only [beq_self_eq_true]
  unfold markStringish
  rw [hp_bind', hp_bind']
  show _ ∧ _
  refine ⟨rfl, ?_⟩
  have hsh : hshape (h.push (.cells (L.map byteV).toArray 5)) h.size = some (5, L.length) := by
    unfold hshape
    simp
  simp only [hsh]
  show _ ∧ _
  refine ⟨rfl, ?_⟩
  have hfz : hfreeze (h.push (.cells (L.map byteV).toArray 5)) ⟨h.size, L.length, none⟩ 1 = h.push (.cells (L.map byteV).toArray 5 (L.length, L.length + 1)) := by
    unfold hfreeze
    apply Array.ext_getElem?
    intro j
    rw [if_neg (by decide), Array.getElem?_modify, Array.getElem?_push, Array.getElem?_push]
    by_cases e : j = h.size
    · subst e; simp
    · simp [e, Ne.symm e]
  show K _ (hfreeze _ ⟨h.size, L.length, none⟩ 1)
  rw [hfz]
  exact H _ (.inr ⟨h.size, L.length, L.length, [], 5, (L.length, L.length + 1), rfl, by simp, Nat.le_refl _, by simp, by simp, fun i hi hh => by simp at hh hi; omega⟩) (push_ext (.refl _))
theorem acc_appS {h1 h2 : Heap} {u : Value} {L m : List UInt8} (a : Acc h h1 u L) (e : Ext h1 h2) (hl : L.length + m.length < 1000000000) (H : ∀ u' h3, Acc h h3 u' (L ++ m) → K u' h3) :
    Hp Try.prog false (Builtin.append_ #[26, 9] 26 #[u, str m]) K h2 ⟨⟩ := by
  refine Hp_appStr (e := 5) (by kernel_rfl) (by kernel_rfl) (a.own.ext e) (by omega) fun v4 h4 hO4 hM4 hF4 _ => ?_
  have z1 := a.ext.size
  have z2 := e.size
  exact H _ _ ⟨hM4.ext_from (a.ext.trans e) (fun b hb hb' => by have := a.blk b hb'; omega), hO4, fun b hb => (hF4 b hb).elim (a.blk b) (fun x => by omega)⟩
set_option maxHeartbeats 4000000 in
theorem RBytes_c {x : Hd} (m : MayH x) (H : ∀ v h', Ext h h' → Bytes h' v (hdB x) → K v h') : CallsH Try.prog 27 #[x.val] h K ⟨⟩ := by
  have b := m.bd
  obtain ⟨bits, flags, size, l1, l1len, order, counts, clen, snaps, sat, slen, maps, mat, mlen, back⟩ := x
  dsimp only at b
  obtain ⟨bits, rfl⟩ := Int.eq_ofNat_of_zero_le (show 0 ≤ bits by omega)
  obtain ⟨size, rfl⟩ := Int.eq_ofNat_of_zero_le (show 0 ≤ size by omega)
  obtain ⟨l1, rfl⟩ := Int.eq_ofNat_of_zero_le (show 0 ≤ l1 by omega)
  obtain ⟨l1len, rfl⟩ := Int.eq_ofNat_of_zero_le (show 0 ≤ l1len by omega)
  obtain ⟨order, rfl⟩ := Int.eq_ofNat_of_zero_le (show 0 ≤ order by omega)
  obtain ⟨counts, rfl⟩ := Int.eq_ofNat_of_zero_le (show 0 ≤ counts by omega)
  obtain ⟨clen, rfl⟩ := Int.eq_ofNat_of_zero_le (show 0 ≤ clen by omega)
  obtain ⟨snaps, rfl⟩ := Int.eq_ofNat_of_zero_le (show 0 ≤ snaps by omega)
  obtain ⟨sat, rfl⟩ := Int.eq_ofNat_of_zero_le (show 0 ≤ sat by omega)
  obtain ⟨slen, rfl⟩ := Int.eq_ofNat_of_zero_le (show 0 ≤ slen by omega)
  obtain ⟨maps, rfl⟩ := Int.eq_ofNat_of_zero_le (show 0 ≤ maps by omega)
  obtain ⟨mat, rfl⟩ := Int.eq_ofNat_of_zero_le (show 0 ≤ mat by omega)
  obtain ⟨mlen, rfl⟩ := Int.eq_ofNat_of_zero_le (show 0 ≤ mlen by omega)
  refine n27_calls ?_
  unfold n27
  rw [boxH]
  have hA := HdAt.new (h := h) ⟨(bits : Nat), flags, (size : Nat), (l1 : Nat), (l1len : Nat), (order : Nat), (counts : Nat), (clen : Nat), (snaps : Nat), (sat : Nat), (slen : Nat), (maps : Nat), (mat : Nat), (mlen : Nat), back⟩
  have e1 : Ext h (h.push (.cells (Hd.cells ⟨(bits : Nat), flags, (size : Nat), (l1 : Nat), (l1len : Nat), (order : Nat), (counts : Nat), (clen : Nat), (snaps : Nat), (sat : Nat), (slen : Nat), (maps : Nat), (mat : Nat), (mlen : Nat), back⟩).toArray 47)) := (by repeat' (first | (with_reducible exact Ext.refl _) | (with_reducible assumption) | (with_reducible refine push_ext ?_) | (with_reducible refine hset_ext ?_ ?_) | (with_reducible refine Ext.trans ?_ (by assumption)) | omega | (simp; done) | (simp; omega) | (refine Ext.size ?_) | (refine Nat.le_succ_of_le (Ext.size ?_))))
  generalize h.push (.cells (Hd.cells ⟨(bits : Nat), flags, (size : Nat), (l1 : Nat), (l1len : Nat), (order : Nat), (counts : Nat), (clen : Nat), (snaps : Nat), (sat : Nat), (slen : Nat), (maps : Nat), (mat : Nat), (mlen : Nat), back⟩).toArray 47) = g at *
  unfold HdAt at hA
  dsimp only at hA
  obtain ⟨a0, a1, a2, a3, a4, a5, a6, a7, a8, a9, a10, a11, a12, a13, a14⟩ := hA
  simp (disch := omega)
  refine cvSame (h := g) (L := [80, 65, 76, 49]) (by simp) fun h0 hO e2 => ?_
  have A0 : Acc g h0 (.slice (some ⟨g.size, 0, none⟩) 4 4) [80, 65, 76, 49] := ⟨e2, hO, fun b hb => by simp [blkV] at hb; omega⟩
  have c0 := hcell_ext A0.ext a0
  simp (disch := omega) [c0]
  refine Number_c (x := bits) (by omega) (by omega) fun v0 h00 hO0 e0' _ => ?_
  refine acc_app A0 e0' hO0.bytes (by simp) fun u1 g1 A1 => ?_
  have c1 := hcell_ext A1.ext a1
  simp (disch := omega) [c1]
  refine Number_c (x := flags) (by omega) (by omega) fun v1 h1 hO1 e1' _ => ?_
  refine acc_app A1 e1' hO1.bytes (by simp) fun u2 g2 A2 => ?_
  have c2 := hcell_ext A2.ext a2
  simp (disch := omega) [c2]
  refine Number_c (x := size) (by omega) (by omega) fun v2 h2 hO2 e2' _ => ?_
  refine acc_app A2 e2' hO2.bytes (by simp) fun u3 g3 A3 => ?_
  have c3 := hcell_ext A3.ext a3
  simp (disch := omega) [c3]
  refine Number_c (x := l1) (by omega) (by omega) fun v3 h3 hO3 e3' _ => ?_
  refine acc_app A3 e3' hO3.bytes (by simp) fun u4 g4 A4 => ?_
  have c4 := hcell_ext A4.ext a4
  simp (disch := omega) [c4]
  refine Number_c (x := l1len) (by omega) (by omega) fun v4 h4 hO4 e4' _ => ?_
  refine acc_app A4 e4' hO4.bytes (by simp) fun u5 g5 A5 => ?_
  have c5 := hcell_ext A5.ext a5
  simp (disch := omega) [c5]
  refine Number_c (x := order) (by omega) (by omega) fun v5 h5 hO5 e5' _ => ?_
  refine acc_app A5 e5' hO5.bytes (by simp) fun u6 g6 A6 => ?_
  have c6 := hcell_ext A6.ext a6
  simp (disch := omega) [c6]
  refine Number_c (x := counts) (by omega) (by omega) fun v6 h6 hO6 e6' _ => ?_
  refine acc_app A6 e6' hO6.bytes (by simp) fun u7 g7 A7 => ?_
  have c7 := hcell_ext A7.ext a7
  simp (disch := omega) [c7]
  refine Number_c (x := clen) (by omega) (by omega) fun v7 h7 hO7 e7' _ => ?_
  refine acc_app A7 e7' hO7.bytes (by simp) fun u8 g8 A8 => ?_
  have c8 := hcell_ext A8.ext a8
  simp (disch := omega) [c8]
  refine Number_c (x := snaps) (by omega) (by omega) fun v8 h8 hO8 e8' _ => ?_
  refine acc_app A8 e8' hO8.bytes (by simp) fun u9 g9 A9 => ?_
  have c9 := hcell_ext A9.ext a9
  simp (disch := omega) [c9]
  refine Number_c (x := sat) (by omega) (by omega) fun v9 h9 hO9 e9' _ => ?_
  refine acc_app A9 e9' hO9.bytes (by simp) fun u10 g10 A10 => ?_
  have c10 := hcell_ext A10.ext a10
  simp (disch := omega) [c10]
  refine Number_c (x := slen) (by omega) (by omega) fun v10 h10 hO10 e10' _ => ?_
  refine acc_app A10 e10' hO10.bytes (by simp) fun u11 g11 A11 => ?_
  have c11 := hcell_ext A11.ext a11
  simp (disch := omega) [c11]
  refine Number_c (x := maps) (by omega) (by omega) fun v11 h11 hO11 e11' _ => ?_
  refine acc_app A11 e11' hO11.bytes (by simp) fun u12 g12 A12 => ?_
  have c12 := hcell_ext A12.ext a12
  simp (disch := omega) [c12]
  refine Number_c (x := mat) (by omega) (by omega) fun v12 h12 hO12 e12' _ => ?_
  refine acc_app A12 e12' hO12.bytes (by simp) fun u13 g13 A13 => ?_
  have c13 := hcell_ext A13.ext a13
  simp (disch := omega) [c13]
  refine Number_c (x := mlen) (by omega) (by omega) fun v13 h13 hO13 e13' _ => ?_
  refine acc_app A13 e13' hO13.bytes (by simp) fun u14 g14 A14 => ?_
  have c14 := hcell_ext A14.ext a14
  simp (disch := omega) [c14]
  refine Number_c (x := back.length) (by omega) (by omega) fun v14 h14 hO14 e14' _ => ?_
  refine acc_app A14 e14' hO14.bytes (by simp) fun u15 g15 A15 => ?_
  have c15 := hcell_ext A15.ext a14
  simp (disch := omega) [c15]
  have hbl := b.2.2.2.2
  refine acc_appS A15 (.refl _) (by simp; omega) fun u16 g16 A16 => ?_
  generalize hL : ((([80, 65, 76, 49] ++ leB (4 : Int).toNat bits ++ leB (8 : Int).toNat flags ++ leB (8 : Int).toNat size ++ leB (8 : Int).toNat l1 ++ leB (4 : Int).toNat l1len ++ leB (4 : Int).toNat order ++ leB (8 : Int).toNat counts ++ leB (4 : Int).toNat clen ++ leB (4 : Int).toNat snaps ++ leB (8 : Int).toNat sat ++ leB (4 : Int).toNat slen ++ leB (4 : Int).toNat maps ++ leB (8 : Int).toNat mat ++ leB (4 : Int).toNat mlen ++ leB (4 : Int).toNat back.length) ++ back : List UInt8)) = L at A16
  have hLl : L.length = 88 + back.length := by rw [← hL]; simp; omega
  refine loopA1 (fun a : Value × Nat => a.1) (fun a h' => 88 + back.length + a.2 ≤ 512 ∧ Acc g h' a.1 (L ++ List.replicate a.2 0)) (fun a => 512 - (88 + back.length + a.2)) (u16, 0) rfl ⟨by simp; omega, by simpa using A16⟩ ?_
  rintro ⟨u, k⟩ h5 ⟨hk, A5⟩
  dsimp only at hk A5
  have hB5 := A5.own.bytes
  obtain ⟨o, c, rfl⟩ := hB5.form
  by_cases hkk : 88 + back.length + k = 512
  · have hk2 : ¬ (L.length : Int) + k < 512 := by omega
    simp (disch := omega) [hk2]
    have hfin : L ++ List.replicate k 0 = hdB ⟨(bits : Nat), flags, (size : Nat), (l1 : Nat), (l1len : Nat), (order : Nat), (counts : Nat), (clen : Nat), (snaps : Nat), (sat : Nat), (slen : Nat), (maps : Nat), (mat : Nat), (mlen : Nat), back⟩ := by
      rw [← hL]
      obtain rfl : k = (64 - back.length) + 360 := by omega
      unfold hdB hdP hdF fieldB
      rw [← List.replicate_append_replicate]
      generalize List.replicate 360 (0 : UInt8) = Z
      simp
    refine H _ _ (e1.trans A5.ext) ?_
    rw [← hfin]
    simpa using hB5
  · have hk2 : (L.length : Int) + k < 512 := by omega
    simp (disch := omega) [hk2]
    have hO6 : OwnS 1 (h5.push (.cells #[.int .u8 0] 5)) (.slice (some ⟨h5.size, 0, none⟩) 1 1) (([0] : List UInt8).map byteV) := OwnS_new (vs := ([0] : List UInt8).map byteV) rfl rfl
    have hlen : (L ++ List.replicate k (0 : UInt8)).length = L.length + k := by simp
    rw [hlen] at A5
    refine acc_app A5 (h2 := h5.push (.cells #[.int .u8 0] 5)) (by repeat' (first | (with_reducible exact Ext.refl _) | (with_reducible assumption) | (with_reducible refine push_ext ?_) | (with_reducible refine hset_ext ?_ ?_) | (with_reducible refine Ext.trans ?_ (by assumption)) | omega | (simp; done) | (simp; omega) | (refine Ext.size ?_) | (refine Nat.le_succ_of_le (Ext.size ?_)))) hO6.bytes (by rw [hlen]; simp; omega) fun u7 h7 A7 => ?_
    refine ⟨(u7, k + 1), rfl, ⟨by dsimp only; omega, ?_⟩, by dsimp only; omega⟩
    rw [List.append_assoc, ← List.replicate_succ'] at A7
    exact A7
end Go.Proofs.Ytgnmjcljljfldaa
