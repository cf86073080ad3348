/- Tables: the reference's bytes of rows; two lists compared. -/
import Derived.Test.YtgnmjcljljfldaaRows2
import Derived.Test.YtgnmjcljljfldaaTab4
set_option linter.unusedSimpArgs false
set_option linter.unusedVariables false
namespace Go.Proofs.Ytgnmjcljljfldaa
open Go.Vc
variable {K : Value → Heap → Prop} {h : Heap}

theorem Rows_c {v : Value} {xs : List Rw} {b : Int} (hS : Rws h v xs) (hl : xs.length < 1000000) (H : ∀ v' h', Ext h h' → Bytes h' v' (putM xs b).1 → (∀ b, blkV v' = some b → h.size ≤ b) → K (.tuple #[v', .int .i64 (putM xs b).2]) h') :
    CallsH Try.prog 9 #[.int .i64 b, v] h K ⟨⟩ := by
  refine n9_calls ?_
  unfold n9
  refine putr_c hS hl fun v' h' e hB hF => ?_
  simp (disch := omega)
  exact H v' h' e hB hF

theorem sameRows_c {v w : Value} {xs ys : List Rw} (hv : Rws h v xs) (hw : Rws h w ys) (hl : xs.length < 1000000) (hl2 : ys.length < 1000000) (H : K (.bool (decide (xs = ys))) h) : CallsH Try.prog 11 #[v, w] h K ⟨⟩ := by
  obtain ⟨o, c, rfl⟩ := hv.form
  obtain ⟨o2, c2, rfl⟩ := hw.form
  refine n11_calls ?_
  unfold n11
  by_cases hle : xs.length = ys.length
  · have hle' : (xs.length : Int) = ys.length := by omega
    simp (disch := omega) [hle']
    refine loopA1 (fun i : Nat => .int .i64 i) (fun i h' => h' = h ∧ i ≤ xs.length ∧ ∀ j (h1 : j < xs.length) (h2 : j < ys.length), j < i → xs[j] = ys[j]) (fun i => xs.length - i) 0 rfl ⟨rfl, by omega, fun j _ _ hj => by omega⟩ ?_
    rintro i h' ⟨rfl, hi, heq⟩
    by_cases hin : i = xs.length
    · have : xs = ys := List.ext_getElem hle fun j h1 h2 => heq j h1 h2 (by omega)
      simp (disch := omega) [hin]
      simpa [this] using H
    · have hi1 : i < xs.length := by omega
      have hi2 : i < ys.length := by omega
      obtain ⟨a, rfl, -, hc⟩ := hv.some (by omega)
      obtain ⟨a2, rfl, -, hc2⟩ := hw.some (by omega)
      have h1 := hv.cell i hi1
      have h2 := hw.cell i hi2
      simp (disch := omega) [h1.1, h1.2.1, h1.2.2.1, h1.2.2.2.1, h1.2.2.2.2, h2.1, h2.2.1, h2.2.2.1, h2.2.2.2.1, h2.2.2.2.2]
      refine Split.mk (fun he => ?_) (fun he => ?_)
      · simp (disch := omega)
        refine ⟨i + 1, by simp, ⟨by omega, fun j a1 a2 hj => ?_⟩, by omega⟩
        by_cases e : j = i
        · subst e
          cases hx : xs[j]; cases hy : ys[j]
          rw [hx, hy] at he
          simp at he
          simp [he]
        · exact heq j a1 a2 (by omega)
      · have hne : ¬ xs = ys := fun e => by
          subst e
          simp at he
        simp (disch := omega)
        simpa [hne] using H
  · have hle' : ¬ (xs.length : Int) = ys.length := by omega
    have hne : ¬ xs = ys := fun e => hle (by rw [e])
    simp (disch := omega) [hle']
    simpa [hne] using H

set_option maxHeartbeats 4000000 in
theorem RefRows_c {v : Value} {xs : List Rw} {b : Int} (hS : Rws h v xs) (hl : xs.length < 1000000) (hnl : ∀ x ∈ xs, x.name.length < 9223372036854775808) (H : ∀ v' h', Ext h h' → Bytes h' v' (putM xs b).1 → (∀ b, blkV v' = some b → h.size ≤ b) → K (.tuple #[v', .int .i64 (putM xs b).2]) h') :
    CallsH Try.prog 10 #[.int .i64 b, v] h K ⟨⟩ := by
  obtain ⟨o, c, rfl⟩ := hS.form
  refine n10_calls ?_
  unfold n10
  by_cases hb : 9 ≤ b ∧ b ≤ 16
  · simp (disch := omega)
    refine loopA2 (fun a : Value × Nat => a.1) (fun a => .int .i64 a.2) (fun a h' => Ext h h' ∧ a.2 ≤ xs.length ∧ GoodM (xs.take a.2) b ∧ OwnS 1 h' a.1 ((RwsB (xs.take a.2)).map byteV) ∧ ∀ b, blkV a.1 = some b → h.size ≤ b) (fun a => xs.length - a.2) (_, 0) ⟨rfl, rfl⟩ ⟨.refl _, by omega, ⟨by simp, by simp⟩, .nil, fun b hb => by cases hb⟩ ?_
    rintro ⟨u, i⟩ h1 ⟨e1, hi, hg, hu, hub⟩
    dsimp only at hi hg hu hub
    by_cases hin : i = xs.length
    · have hgx : GoodM xs b := by rw [hin, List.take_length] at hg; exact hg
      by_cases h64 : 64 < xs.length
      · rw [putM_long hb hgx h64] at H
        simp (disch := omega) [hin]
        exact H _ _ e1 (.inl ⟨rfl, rfl⟩) (fun b hb => by cases hb)
      · rw [putM_ok hb hgx h64] at H
        rw [hin, List.take_length] at hu
        simp (disch := omega) [hin]
        exact H _ _ e1 hu.bytes hub
    · have hil : i < xs.length := by omega
      obtain ⟨a, rfl, -, hc⟩ := hS.some (by omega)
      have hcs := (hS.ext e1).cell i hil
      have hnx := hnl xs[i] (List.getElem_mem hil)
      have htk := RwsB_take hil
      have hbl := RwsB_le hg.1
      generalize hX : xs[i] = X at *
      obtain ⟨n, g, fl, p, m⟩ := X
      dsimp only at hcs hnx
      simp (disch := omega) [hcs.1, hcs.2.1, hcs.2.2.1, hcs.2.2.2.1, hcs.2.2.2.2]
      refine MayRow_c hnx hb.1 hb.2 (fun h2 e2 hk => ?_) (fun h2 e2 hk => ?_)
      · have E2 := e1.trans e2
        simp (disch := omega)
        refine loopA1 (fun k : Nat => .int .i64 k) (fun k h' => h' = h2 ∧ k ≤ i ∧ ∀ j (hj : j < xs.length), j < k → xs[j].name ≠ n) (fun k => i - k) 0 rfl ⟨rfl, by omega, fun j _ hj => by omega⟩ ?_
        rintro k h3 ⟨rfl, hki, hne⟩
        by_cases hke : k = i
        · have hnot : n ∉ (xs.take i).map Rw.name := fun hm => by
            obtain ⟨x, hx, hxe⟩ := List.mem_map.1 hm
            obtain ⟨j, hj, hje⟩ := List.mem_iff_getElem.1 hx
            simp only [List.length_take] at hj
            refine hne j (by omega) (by omega) ?_
            rw [← hxe, ← hje]; simp
          have hk1 := hk.1.2.1
          have hk2 := hk.2.1
          have hk3 := hk.2.2
          dsimp only at hk1 hk2 hk3
          have hcs := (hS.ext E2).cell i hil
          rw [hX] at hcs
          dsimp only at hcs
          simp (disch := omega) [hke, hcs.1, hcs.2.1, hcs.2.2.1, hcs.2.2.2.1, hcs.2.2.2.2]
          have hl0 : 0 ≤ p ∧ p ≤ 268435456 ∧ 0 ≤ m ∧ m ≤ 16777216 := by rcases hk3 with hk | ⟨hk1, hk2⟩; omega; have := hk1.1; have := hk1.2.1; omega
          obtain ⟨p, rfl⟩ := Int.eq_ofNat_of_zero_le hl0.1
          obtain ⟨m, rfl⟩ := Int.eq_ofNat_of_zero_le hl0.2.2.1
          obtain ⟨g, rfl⟩ := Int.eq_ofNat_of_zero_le (show 0 ≤ g by omega)
          obtain ⟨fl, rfl⟩ := Int.eq_ofNat_of_zero_le hk2.2.2.1
          have hA0 : Acc h h3 u (RwsB (xs.take i)) := ⟨E2, hu.ext e2, hub⟩
          simp only [List.length_take] at hbl
          refine RefNamedB_c (by omega) fun v4 h4 hO4 e4 _ => ?_
          refine acc_app hA0 e4 hO4.bytes (by simp; omega) fun u5 h5 A5 => ?_
          have hcs := (hS.ext A5.ext).cell i hil
          rw [hX] at hcs
          dsimp only at hcs
          have hvg : Value.int .u8 ((g : Nat) : Int) = byteV (UInt8.ofNat (g % 256)) := by unfold byteV; simp; omega
          have hvf : Value.int .u8 ((fl : Nat) : Int) = byteV (UInt8.ofNat (fl % 256)) := by unfold byteV; simp; omega
          simp (disch := omega) [hcs.1, hcs.2.1, hcs.2.2.1, hcs.2.2.2.1, hcs.2.2.2.2, Try.cvw3_5, wrap_u8_eq]
          have hO6 : OwnS 1 (h5.push (.cells #[byteV (UInt8.ofNat (g % 256)), byteV (UInt8.ofNat (fl % 256))] 5)) (.slice (some ⟨h5.size, 0, none⟩) 2 2) ([UInt8.ofNat (g % 256), UInt8.ofNat (fl % 256)].map byteV) := OwnS_new rfl rfl
          rw [← hvg, ← hvf] at hO6
          refine acc_app A5 (h2 := h5.push (.cells #[.int .u8 (g : Nat), .int .u8 (fl : Nat)] 5)) ((by repeat' (first | (with_reducible exact Ext.refl _) | (with_reducible assumption) | (with_reducible refine push_ext ?_) | (with_reducible refine hset_ext ?_ ?_) | (with_reducible refine Ext.trans ?_ (by assumption)) | omega | (simp; done) | (simp; omega) | (refine Ext.size ?_) | (refine Nat.le_succ_of_le (Ext.size ?_))))) hO6.bytes (by simp; omega) fun u7 h7 A7 => ?_
          have hcs := (hS.ext A7.ext).cell i hil
          rw [hX] at hcs
          dsimp only at hcs
          simp (disch := omega) [hcs.1, hcs.2.1, hcs.2.2.1, hcs.2.2.2.1, hcs.2.2.2.2]
          refine Number_c (x := p) (by omega) (by omega) fun v8 h8 hO8 e8 _ => ?_
          refine acc_app A7 e8 hO8.bytes (by simp; omega) fun u9 h9 A9 => ?_
          have hcs := (hS.ext A9.ext).cell i hil
          rw [hX] at hcs
          dsimp only at hcs
          simp (disch := omega) [hcs.1, hcs.2.1, hcs.2.2.1, hcs.2.2.2.1, hcs.2.2.2.2]
          refine Number_c (x := m) (by omega) (by omega) fun v10 h10 hO10 e10 _ => ?_
          refine acc_app A9 e10 hO10.bytes (by simp; omega) fun u11 h11 A11 => ?_
          simp (disch := omega)
          refine ⟨i + 1, by simp, ⟨A11.ext, by omega, goodm_step hil hg (by rw [hX]; exact hk) (by rw [hX]; exact hnot), ?_, A11.blk⟩, by omega⟩
          rw [htk]
          have e : (Rw.bytes ⟨n, (g : Nat), (fl : Nat), (p : Nat), (m : Nat)⟩) = (UInt8.ofNat (n.length % 256) :: n) ++ ([UInt8.ofNat (g % 256), UInt8.ofNat (fl % 256)] ++ (leB (8 : Int).toNat p ++ leB (4 : Int).toNat m)) := by
            unfold Rw.bytes; simp [leB]
          rw [e]
          have := A11.own
          simpa only [List.append_assoc] using this
        · have hkl : k < xs.length := by omega
          have hck := (hS.ext E2).cell k hkl
          have hci := (hS.ext E2).cell i hil
          rw [hX] at hci
          dsimp only at hci
          simp (disch := omega) [hck.1, hci.1]
          refine Split.mk (fun he => ?_) (fun he => ?_)
          · rw [putM_bad hb (goodm_not hil (.inr ?_))] at H
            · simp (disch := omega)
              exact H _ _ E2 (.inl ⟨rfl, rfl⟩) (fun b hb => by cases hb)
            · rw [hX]
              refine List.mem_map.2 ⟨xs[k], List.mem_iff_getElem.2 ⟨k, by simp; omega, by simp⟩, he⟩
          · simp (disch := omega)
            refine ⟨k + 1, by simp, ⟨by omega, fun j hj hjk => ?_⟩, by omega⟩
            by_cases e : j = k
            · subst e; exact he
            · exact hne j hj (by omega)
      · rw [putM_bad hb (goodm_not hil (.inl (by rw [hX]; exact hk)))] at H
        simp (disch := omega)
        exact H _ _ (e1.trans e2) (.inl ⟨rfl, rfl⟩) (fun b hb => by cases hb)
  · rw [putM_bits hb] at H
    by_cases h9 : b < 9
    · simp (disch := omega) [h9]
      exact H _ _ (.refl _) (.inl ⟨rfl, rfl⟩) (fun b hb => by cases hb)
    · simp (disch := omega) [h9]
      exact H _ _ (.refl _) (.inl ⟨rfl, rfl⟩) (fun b hb => by cases hb)
end Go.Proofs.Ytgnmjcljljfldaa
