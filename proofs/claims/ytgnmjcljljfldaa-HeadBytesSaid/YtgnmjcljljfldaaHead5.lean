/- Heads: the program's bytes. -/
import Derived.Test.YtgnmjcljljfldaaHead4
set_option linter.unusedSimpArgs false
set_option linter.unusedVariables false
namespace Go.Proofs.Ytgnmjcljljfldaa
open Go.Vc
variable {K : Value → Heap → Prop} {h : Heap}

/-- copy of a text into the beginning of one's own slice. -/
theorem Hp_copyS {P : Program} {t t2 n c k B : Nat} {L m : List UInt8} (ht : slS P t 1 = true) (hO : OwnS 1 h (.slice (some ⟨B, 0, none⟩) n c) (L.map byteV)) (hk : k ≤ L.length)
    (H : ∀ h', OwnS 1 h' (.slice (some ⟨B, 0, none⟩) n c) ((over L 0 (m.take k)).map byteV) → Mod (· = B) h h' → K (.int .i64 (min m.length k : Nat)) h') :
    Hp P false (Builtin.copy_ #[t, t2] 3 #[.slice (some ⟨B, 0, none⟩) k c, str m]) K h ⟨⟩ := by
  have hs := hO.seg
  simp only [List.length_map, Nat.mul_one] at hs
  refine Hp_copy ht (Src.str (l := m)) (one_bytes m) (fun i hi => ?_) (fun i hi => hO.free (by omega)) ?_
  · rw [hs.2.2 i (by simp; omega)]; rfl
  · have := hO.write (k := 0) (new := (m.map byteV).take k) (by simp; omega)
    rw [← List.map_take, ← over_map] at this
    rw [← List.map_take]
    exact H _ this (Mod.write ⟨B, 0, none⟩ _ _ _)

theorem own0 (n : Nat) : OwnS 1 (h.push (.cells (Array.replicate n (Value.int .u8 0)) 5)) (.slice (some ⟨h.size, 0, none⟩) n n) ((List.replicate n (0 : UInt8)).map byteV) := by
  have hO : OwnS 1 (h.push (.cells ((List.replicate n (0 : UInt8)).map byteV).toArray 5)) (.slice (some ⟨h.size, 0, none⟩) n n) ((List.replicate n (0 : UInt8)).map byteV) := OwnS_new rfl (by simp)
  have hz : ((List.replicate n (0 : UInt8)).map byteV).toArray = Array.replicate n (Value.int .u8 0) := by simp [byteV]
  rw [hz] at hO
  exact hO
theorem HdAt.lt {b : Nat} {x : Hd} (a : HdAt h b x) : b < h.size := hcell_lt (a := ⟨b, 0, none⟩) a.1
theorem cell_mod {S : Nat → Prop} {h' : Heap} {a : Addr} {v : Value} (c : hcell h a = some v) (m : Mod S h h') (hS : ¬ S a.block) : hcell h' a = some v := by
  rw [m.cell (hcell_lt c) hS]; exact c

set_option maxHeartbeats 4000000 in
theorem HBytes_c {x : Hd} (ht : ∀ v h', Ext h h' → OwnS 1 h' v ((hdB x).map byteV) → (∀ b, blkV v = some b → h.size ≤ b) → MayH x → K (.tuple #[v, .int .i64 0]) h') (hf : ∀ h', Ext h h' → ¬ MayH x → K (.tuple #[.slice none 0 0, .int .i64 2]) h') :
    CallsH Try.prog 20 #[x.val] h K ⟨⟩ := by
  refine n20_calls ?_
  unfold n20
  rw [boxH]
  have hA := HdAt.new (h := h) x
  have e1 : Ext h (h.push (.cells x.cells.toArray 47)) := (by repeat' (first | (with_reducible exact Ext.refl _) | (with_reducible assumption) | (with_reducible refine push_ext ?_) | (with_reducible refine hset_ext ?_ ?_) | (with_reducible refine Ext.trans ?_ (by assumption)) | omega | (simp; done) | (simp; omega) | (refine Ext.size ?_) | (refine Nat.le_succ_of_le (Ext.size ?_))))
  have z1 : h.size < (h.push (.cells x.cells.toArray 47)).size := by simp
  generalize h.push (.cells x.cells.toArray 47) = g at *
  rw [loadH hA]
  refine Check_c (fun h2 e2 hM => ?_) (fun h2 e2 hM => ?_)
  case refine_2 =>
    simp (disch := omega)
    exact hf _ (e1.trans e2) hM
  have hA2 := hA.ext e2
  have E2 := e1.trans e2
  have zz2 := e2.size
  simp (disch := omega)
  have hO := own0 (h := h2) 512
  have hA3 : HdAt (h2.push (.cells (Array.replicate 512 (Value.int .u8 0)) 5)) h.size x := hA2.ext (by repeat' (first | (with_reducible exact Ext.refl _) | (with_reducible assumption) | (with_reducible refine push_ext ?_) | (with_reducible refine hset_ext ?_ ?_) | (with_reducible refine Ext.trans ?_ (by assumption)) | omega | (simp; done) | (simp; omega) | (refine Ext.size ?_) | (refine Nat.le_succ_of_le (Ext.size ?_))))
  have e3 : Ext h2 (h2.push (.cells (Array.replicate 512 (Value.int .u8 0)) 5)) := (by repeat' (first | (with_reducible exact Ext.refl _) | (with_reducible assumption) | (with_reducible refine push_ext ?_) | (with_reducible refine hset_ext ?_ ?_) | (with_reducible refine Ext.trans ?_ (by assumption)) | omega | (simp; done) | (simp; omega) | (refine Ext.size ?_) | (refine Nat.le_succ_of_le (Ext.size ?_))))
  have z3 : (h2.push (.cells (Array.replicate 512 (Value.int .u8 0)) 5)).size = h2.size + 1 := by simp
  generalize h2.push (.cells (Array.replicate 512 (Value.int .u8 0)) 5) = g3 at *
  refine Hp_copyS (by kernel_rfl) hO (Nat.le_of_eq (List.length_replicate ..).symm) fun h4 hO4 m4 => ?_
  have hA4 : HdAt h4 h.size x := by
    obtain ⟨b0, b1, b2, b3, b4, b5, b6, b7, b8, b9, b10, b11, b12, b13, b14⟩ := hA3
    have ne : ¬ h.size = h2.size := by omega
    exact ⟨cell_mod b0 m4 ne, cell_mod b1 m4 ne, cell_mod b2 m4 ne, cell_mod b3 m4 ne, cell_mod b4 m4 ne, cell_mod b5 m4 ne, cell_mod b6 m4 ne, cell_mod b7 m4 ne, cell_mod b8 m4 ne, cell_mod b9 m4 ne, cell_mod b10 m4 ne, cell_mod b11 m4 ne, cell_mod b12 m4 ne, cell_mod b13 m4 ne, cell_mod b14 m4 ne⟩
  have E4 : Ext h h4 := m4.ext_from (E2.trans e3) (fun b hb e => by omega)
  have hL0 : over (List.replicate 512 (0 : UInt8)) 0 (List.take 512 [80, 65, 76, 49]) = hdP x 0 ++ List.replicate (512 - (hdP x 0).length) 0 := by
    show over ([] ++ List.replicate (4 + 508) (0 : UInt8)) ([] : List UInt8).length [80, 65, 76, 49] = _
    rw [over_zeros (A := []) (M := [80, 65, 76, 49]) (n := 4) (m := 508) rfl]
    rfl
  rw [hL0] at hO4
  have z4 := m4.size
  rw [loadH hA4]
  refine fields_c hM fun B h5 e5 hF hB1 hB2 => ?_
  have E5 := E4.trans e5
  have hO5 := hO4.ext e5
  have hA5 := hA4.ext e5
  simp (disch := omega)
  refine loopA1 (fun j : Nat => .int .i64 j) (fun j h' => j ≤ 14 ∧ Mod (· = h2.size) h5 h' ∧ OwnS 1 h' (.slice (some ⟨h2.size, 0, none⟩) 512 512) ((hdP x j ++ List.replicate (512 - (hdP x j).length) 0).map byteV)) (fun j => 14 - j) 0 rfl ⟨by omega, Mod.refl _ _, hO5⟩ ?_
  rintro j h6 ⟨hj, m6, hO6⟩
  by_cases hj14 : j = 14
  · subst hj14
    have b14 := cell_mod hA5.2.2.2.2.2.2.2.2.2.2.2.2.2.2 m6 (by show ¬ h.size = h2.size; omega)
    simp (disch := omega) [b14]
    have hbl := hM.bd.2.2.2.2
    have hlen : (hdP x 14 ++ List.replicate (512 - (hdP x 14).length) (0 : UInt8)).length = 512 := by rw [List.length_append, List.length_replicate, hdP_14]
    have hE : setTextE (512 : Nat) 84 64 x.back = 0 := by
      have hF0 : fieldE (512 : Nat) 84 64 = 0 := by unfold fieldE; rw [if_neg (by omega), if_pos (by omega)]
      unfold setTextE
      rw [if_neg (by rw [hF0]; simp), if_neg (by omega)]
    refine SetTextO_c hO6 (by omega) (by omega) (fun e => absurd hE e) (fun h7 _ hO7 m7 _ _ => ?_)
    try simp (disch := omega)
    have hB : over (hdP x 14 ++ List.replicate (512 - (hdP x 14).length) (0 : UInt8)) (84 : Int).toNat (fieldB (64 : Int).toNat x.back) = hdB x := by
      have := over_zeros (A := hdP x 14) (M := fieldB 64 x.back) (n := 68) (m := 360) (by rw [fieldB_length hbl])
      rw [hdP_14] at this ⊢
      unfold hdB
      rw [← List.append_assoc]
      exact this
    rw [hB] at hO7
    exact ht _ _ ((m6.trans m7 (fun b _ e => e)).ext_from E5 (fun b hb e => by omega)) hO7 (fun b hb => by simp [blkV] at hb; omega) hM
  · have hj' : j < 14 := by omega
    obtain ⟨c0, c1, c2⟩ := hF j hj'
    have c0 := cell_mod c0 m6 (by simp; omega)
    have c1 := cell_mod c1 m6 (by simp; omega)
    have c2 := cell_mod c2 m6 (by simp; omega)
    simp (disch := omega) [c0, c1, c2]
    have hok := hdF_ok hM j hj'
    have hlen : (hdP x j ++ List.replicate (512 - (hdP x j).length) (0 : UInt8)).length = 512 := by rw [List.length_append, List.length_replicate, hdP_len hj']; omega
    have hs := hdP_succ (x := x) (j := j) hj'
    have hpl := hdP_len (x := x) hj'
    generalize (hdF x)[j] = F at *
    obtain ⟨n, v⟩ := F
    generalize hdAt[j] = p at *
    dsimp only at hok hs ⊢
    have eS : Ext h6 (hset (hset (hset (Array.push h6 (Obj.cells #[Value.int IntKind.i64 0, Value.int IntKind.i64 0, Value.int IntKind.u64 0] 91)) { block := Array.size h6, off := 0 } (Value.int IntKind.i64 p)) { block := Array.size h6, off := 1 } (Value.int IntKind.i64 n)) { block := Array.size h6, off := 2 } (Value.int IntKind.u64 v)) := (by repeat' (first | (with_reducible exact Ext.refl _) | (with_reducible assumption) | (with_reducible refine push_ext ?_) | (with_reducible refine hset_ext ?_ ?_) | (with_reducible refine Ext.trans ?_ (by assumption)) | omega | (simp; done) | (simp; omega) | (refine Ext.size ?_) | (refine Nat.le_succ_of_le (Ext.size ?_))))
    generalize hset (hset (hset (Array.push h6 (Obj.cells #[Value.int IntKind.i64 0, Value.int IntKind.i64 0, Value.int IntKind.u64 0] 91)) { block := Array.size h6, off := 0 } (Value.int IntKind.i64 p)) { block := Array.size h6, off := 1 } (Value.int IntKind.i64 n)) { block := Array.size h6, off := 2 } (Value.int IntKind.u64 v) = g6 at *
    have hpw : v < 256 ^ n := by
      rcases hok.2.1 with e | e
      · rw [e, show (256 : Nat) ^ 4 = 4294967296 by decide]; omega
      · rw [e, show (256 : Nat) ^ 8 = 18446744073709551616 by decide]; omega
    have hE : setE (512 : Nat) p n v = 0 := by
      unfold setE
      rw [if_neg (by omega), if_pos (by omega), Int.toNat_natCast, if_neg (by omega)]
    refine SetO_c (hO6.ext eS) (by omega) (by omega) (by omega) (fun e => absurd hE e) (fun h7 _ hO7 m7 _ => ?_)
    simp (disch := omega)
    refine ⟨j + 1, by simp, ⟨by omega, (m6.trans (Mod.of_ext eS) (fun b _ e => e)).trans m7 (fun b _ e => e), ?_⟩, by omega⟩
    have hB : over (hdP x j ++ List.replicate (512 - (hdP x j).length) (0 : UInt8)) (p : Int).toNat (leB (n : Int).toNat v) = hdP x (j + 1) ++ List.replicate (512 - (hdP x (j + 1)).length) 0 := by
      have := over_zeros (A := hdP x j) (M := leB n v) (n := n) (m := 512 - p - n) (by simp)
      rw [hs, List.length_append, leB_length, hpl, Int.toNat_natCast, Int.toNat_natCast]
      rw [hpl, show n + (512 - p - n) = 512 - p by omega] at this
      rw [show 512 - (p + n) = 512 - p - n by omega]
      exact this
    rw [hB, List.map_append, List.map_replicate] at hO7
    exact hO7
end Go.Proofs.Ytgnmjcljljfldaa
