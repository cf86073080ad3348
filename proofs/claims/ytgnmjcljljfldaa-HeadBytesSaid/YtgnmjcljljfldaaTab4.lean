/- Tables: the reference's bytes of a list; two lists compared. -/
import Derived.Test.YtgnmjcljljfldaaTab3
set_option linter.unusedSimpArgs false
set_option linter.unusedVariables false
namespace Go.Proofs.Ytgnmjcljljfldaa
open Go.Vc
variable {K : Value → Heap → Prop} {h : Heap}

theorem Snaps_c {v : Value} {xs : List Sn} {b : Int} (hS : Sns h v xs) (hl : xs.length < 1000000) (H : ∀ v' h', Ext h h' → Bytes h' v' (putR xs b).1 → (∀ b, blkV v' = some b → h.size ≤ b) → K (.tuple #[v', .int .i64 (putR xs b).2]) h') :
    CallsH Try.prog 31 #[.int .i64 b, v] h K ⟨⟩ := by
  refine n31_calls ?_
  unfold n31
  refine put_c hS hl fun v' h' e hB hF => ?_
  simp (disch := omega)
  exact H v' h' e hB hF

theorem sameSnaps_c {v w : Value} {xs ys : List Sn} (hv : Sns h v xs) (hw : Sns h w ys) (hl : xs.length < 1000000) (hl2 : ys.length < 1000000) (H : K (.bool (decide (xs = ys))) h) : CallsH Try.prog 16 #[v, w] h K ⟨⟩ := by
  obtain ⟨o, c, rfl⟩ := hv.form
  obtain ⟨o2, c2, rfl⟩ := hw.form
  refine n16_calls ?_
  unfold n16
  by_cases hle : xs.length = ys.length
  · have hle' : (xs.length : Int) = ys.length := by omega
    simp (disch := omega) [hle']
    refine loopA1 (fun i : Nat => .int .i64 i) (fun i h' => h' = h ∧ i ≤ xs.length ∧ ∀ j (h1 : j < xs.length) (h2 : j < ys.length), j < i → xs[j] = ys[j]) (fun i => xs.length - i) 0 rfl ⟨rfl, by omega, fun j _ _ hj => by omega⟩ ?_
    rintro i h' ⟨rfl, hi, heq⟩
    by_cases hin : i = xs.length
    · have : xs = ys := List.ext_getElem hle fun j h1 h2 => heq j h1 h2 (by omega)
      simp (disch := omega) [hin]
      simpa [this] using H
    · have hi1 : i < xs.length := by omega
      have hi2 : i < ys.length := by omega
      obtain ⟨a, rfl, -, hc⟩ := hv.some (by omega)
      obtain ⟨a2, rfl, -, hc2⟩ := hw.some (by omega)
      have h1 := hv.cell i hi1
      have h2 := hw.cell i hi2
      simp (disch := omega) [h1.1, h1.2.1, h1.2.2.1, h1.2.2.2, h2.1, h2.2.1, h2.2.2.1, h2.2.2.2]
      refine Split.mk (fun he => ?_) (fun he => ?_)
      · simp (disch := omega)
        refine ⟨i + 1, by simp, ⟨by omega, fun j a1 a2 hj => ?_⟩, by omega⟩
        by_cases e : j = i
        · subst e
          cases hx : xs[j]; cases hy : ys[j]
          rw [hx, hy] at he
          simp at he
          simp [he]
        · exact heq j a1 a2 (by omega)
      · have hne : ¬ xs = ys := fun e => by
          subst e
          simp at he
        simp (disch := omega)
        simpa [hne] using H
  · have hle' : ¬ (xs.length : Int) = ys.length := by omega
    have hne : ¬ xs = ys := fun e => hle (by rw [e])
    simp (disch := omega) [hle']
    simpa [hne] using H

/-- Bytes that are being put together. -/
structure Acc (h h' : Heap) (u : Value) (L : List UInt8) : Prop where
  ext : Ext h h'
  own : OwnS 1 h' u (L.map byteV)
  blk : ∀ b, blkV u = some b → h.size ≤ b
theorem acc_app {h1 h2 : Heap} {u v : Value} {L M : List UInt8} (a : Acc h h1 u L) (e : Ext h1 h2) (hB : Bytes h2 v M) (hl : L.length + M.length < 1000000000) (H : ∀ u' h3, Acc h h3 u' (L ++ M) → K u' h3) :
    Hp Try.prog false (Builtin.append_ #[26, 26] 26 #[u, v]) K h2 ⟨⟩ := by
  refine Hp_appB (e := 5) (by kernel_rfl) (by kernel_rfl) (a.own.ext e) hB (by omega) fun v4 h4 hO4 hM4 hF4 _ => ?_
  have z1 := a.ext.size
  have z2 := e.size
  exact H _ _ ⟨hM4.ext_from (a.ext.trans e) (fun b hb hb' => by have := a.blk b hb'; omega), hO4, fun b hb => (hF4 b hb).elim (a.blk b) (fun x => by omega)⟩

set_option maxHeartbeats 4000000 in
theorem RefSnaps_c {v : Value} {xs : List Sn} {b : Int} (hS : Sns h v xs) (hl : xs.length < 1000000) (hnl : ∀ x ∈ xs, x.name.length < 9223372036854775808) (H : ∀ v' h', Ext h h' → Bytes h' v' (putR xs b).1 → (∀ b, blkV v' = some b → h.size ≤ b) → K (.tuple #[v', .int .i64 (putR xs b).2]) h') :
    CallsH Try.prog 47 #[.int .i64 b, v] h K ⟨⟩ := by
  obtain ⟨o, c, rfl⟩ := hS.form
  refine n47_calls ?_
  unfold n47
  by_cases hb : 9 ≤ b ∧ b ≤ 16
  · simp (disch := omega)
    refine loopA2 (fun a : Value × Nat => a.1) (fun a => .int .i64 a.2) (fun a h' => Ext h h' ∧ a.2 ≤ xs.length ∧ GoodL (xs.take a.2) b ∧ OwnS 1 h' a.1 ((SnsB (xs.take a.2)).map byteV) ∧ ∀ b, blkV a.1 = some b → h.size ≤ b) (fun a => xs.length - a.2) (_, 0) ⟨rfl, rfl⟩ ⟨.refl _, by omega, ⟨by simp, by simp⟩, .nil, fun b hb => by cases hb⟩ ?_
    rintro ⟨u, i⟩ h1 ⟨e1, hi, hg, hu, hub⟩
    dsimp only at hi hg hu hub
    by_cases hin : i = xs.length
    · have hgx : GoodL xs b := by rw [hin, List.take_length] at hg; exact hg
      by_cases h64 : 64 < xs.length
      · rw [putR_long hb hgx h64] at H
        simp (disch := omega) [hin]
        exact H _ _ e1 (.inl ⟨rfl, rfl⟩) (fun b hb => by cases hb)
      · rw [putR_ok hb hgx h64] at H
        rw [hin, List.take_length] at hu
        simp (disch := omega) [hin]
        exact H _ _ e1 hu.bytes hub
    · have hil : i < xs.length := by omega
      obtain ⟨a, rfl, -, hc⟩ := hS.some (by omega)
      have hcs := (hS.ext e1).cell i hil
      have hnx := hnl xs[i] (List.getElem_mem hil)
      have htk := SnsB_take hil
      have hbl := SnsB_le hg.1
      generalize hX : xs[i] = X at *
      obtain ⟨n, l, m, s⟩ := X
      dsimp only at hcs hnx
      simp (disch := omega) [hcs.1, hcs.2.1, hcs.2.2.1, hcs.2.2.2]
      refine MaySnap_c hnx hb.1 hb.2 (fun h2 e2 hk => ?_) (fun h2 e2 hk => ?_)
      · have E2 := e1.trans e2
        simp (disch := omega)
        refine loopA1 (fun k : Nat => .int .i64 k) (fun k h' => h' = h2 ∧ k ≤ i ∧ ∀ j (hj : j < xs.length), j < k → xs[j].name ≠ n) (fun k => i - k) 0 rfl ⟨rfl, by omega, fun j _ hj => by omega⟩ ?_
        rintro k h3 ⟨rfl, hki, hne⟩
        by_cases hke : k = i
        · have hnot : n ∉ (xs.take i).map Sn.name := fun hm => by
            obtain ⟨x, hx, hxe⟩ := List.mem_map.1 hm
            obtain ⟨j, hj, hje⟩ := List.mem_iff_getElem.1 hx
            simp only [List.length_take] at hj
            refine hne j (by omega) (by omega) ?_
            rw [← hxe, ← hje]; simp
          have hk1 := hk.1.2.1
          have hk2 := hk.2.1
          have hk3 := hk.2.2
          dsimp only at hk1 hk2 hk3
          have hcs := (hS.ext E2).cell i hil
          rw [hX] at hcs
          dsimp only at hcs
          simp (disch := omega) [hke, hcs.1, hcs.2.1, hcs.2.2.1, hcs.2.2.2]
          have hl0 : 0 ≤ l ∧ l ≤ 268435456 := by rcases hk3 with hk | ⟨hk1, hk2⟩; omega; have := hk2.1; have := hk2.2.1; omega
          obtain ⟨l, rfl⟩ := Int.eq_ofNat_of_zero_le hl0.1
          obtain ⟨m, rfl⟩ := Int.eq_ofNat_of_zero_le hk2.2.2.2.1
          obtain ⟨s, rfl⟩ := Int.eq_ofNat_of_zero_le hk2.1
          have hA0 : Acc h h3 u (SnsB (xs.take i)) := ⟨E2, hu.ext e2, hub⟩
          simp only [List.length_take] at hbl
          refine RefNamedB_c (by omega) fun v4 h4 hO4 e4 _ => ?_
          refine acc_app hA0 e4 hO4.bytes (by simp; omega) fun u5 h5 A5 => ?_
          have hcs := (hS.ext A5.ext).cell i hil
          rw [hX] at hcs
          dsimp only at hcs
          simp (disch := omega) [hcs.1, hcs.2.1, hcs.2.2.1, hcs.2.2.2]
          refine Number_c (x := l) (by omega) (by omega) fun v6 h6 hO6 e6 _ => ?_
          refine acc_app A5 e6 hO6.bytes (by simp; omega) fun u7 h7 A7 => ?_
          have hcs := (hS.ext A7.ext).cell i hil
          rw [hX] at hcs
          dsimp only at hcs
          simp (disch := omega) [hcs.1, hcs.2.1, hcs.2.2.1, hcs.2.2.2]
          refine Number_c (x := m) (by omega) (by omega) fun v8 h8 hO8 e8 _ => ?_
          refine acc_app A7 e8 hO8.bytes (by simp; omega) fun u9 h9 A9 => ?_
          have hcs := (hS.ext A9.ext).cell i hil
          rw [hX] at hcs
          dsimp only at hcs
          simp (disch := omega) [hcs.1, hcs.2.1, hcs.2.2.1, hcs.2.2.2]
          refine Number_c (x := s) (by omega) (by omega) fun v10 h10 hO10 e10 _ => ?_
          refine acc_app A9 e10 hO10.bytes (by simp; omega) fun u11 h11 A11 => ?_
          simp (disch := omega)
          refine ⟨i + 1, by simp, ⟨A11.ext, by omega, good_step hil hg (by rw [hX]; exact hk) (by rw [hX]; exact hnot), ?_, A11.blk⟩, by omega⟩
          rw [htk]
          have e : (Sn.bytes ⟨n, l, m, s⟩) = (UInt8.ofNat (n.length % 256) :: n) ++ (leB (8 : Int).toNat l ++ (leB (4 : Int).toNat m ++ leB (8 : Int).toNat s)) := by
            unfold Sn.bytes; simp
          rw [e]
          have := A11.own
          simpa only [List.append_assoc] using this
        · have hkl : k < xs.length := by omega
          have hck := (hS.ext E2).cell k hkl
          have hci := (hS.ext E2).cell i hil
          rw [hX] at hci
          dsimp only at hci
          simp (disch := omega) [hck.1, hci.1]
          refine Split.mk (fun he => ?_) (fun he => ?_)
          · rw [putR_bad hb (good_not hil (.inr ?_))] at H
            · simp (disch := omega)
              exact H _ _ E2 (.inl ⟨rfl, rfl⟩) (fun b hb => by cases hb)
            · rw [hX]
              refine List.mem_map.2 ⟨xs[k], List.mem_iff_getElem.2 ⟨k, by simp; omega, by simp⟩, he⟩
          · simp (disch := omega)
            refine ⟨k + 1, by simp, ⟨by omega, fun j hj hjk => ?_⟩, by omega⟩
            by_cases e : j = k
            · subst e; exact he
            · exact hne j hj (by omega)
      · rw [putR_bad hb (good_not hil (.inl (by rw [hX]; exact hk)))] at H
        simp (disch := omega)
        exact H _ _ (e1.trans e2) (.inl ⟨rfl, rfl⟩) (fun b hb => by cases hb)
  · rw [putR_bits hb] at H
    by_cases h9 : b < 9
    · simp (disch := omega) [h9]
      exact H _ _ (.refl _) (.inl ⟨rfl, rfl⟩) (fun b hb => by cases hb)
    · simp (disch := omega) [h9]
      exact H _ _ (.refl _) (.inl ⟨rfl, rfl⟩) (fun b hb => by cases hb)
end Go.Proofs.Ytgnmjcljljfldaa
