/- Counts: the reference's first run; what the chapter's rows say; all counts, one by one. -/
import Derived.Test.YtmppolccfjfoaaaCounts4
set_option linter.unusedSimpArgs false
set_option linter.unusedVariables false
namespace Go.Proofs.Ytmppolccfjfoaaa
open Go.Vc
variable {K : Value → Heap → Prop} {h : Heap}

theorem RefFree_c {o f n : Int} {v : Value} {l : List UInt8} (hB : Bytes h v l) (hl : l.length < 1000000000) (hn : n < 9223372036854775808) (H : K (.tuple #[.int .i64 (freeR l o f n).1, .int .i64 (freeR l o f n).2]) h) :
    CallsH Try.prog 53 #[v, .int .i64 o, .int .i64 f, .int .i64 n] h K ⟨⟩ := by
  refine n53_calls ?_
  unfold n53
  refine RefWidth_c ?_
  by_cases hw : wd o = 0
  · have hr : freeR l o f n = (0, 2) := by unfold freeR; rw [if_pos (.inl hw)]
    rw [hr] at H
    simp (disch := omega) [hw]
    exact H
  · by_cases hn1 : n < 1
    · have hr : freeR l o f n = (0, 2) := by unfold freeR; rw [if_pos (.inr hn1)]
      rw [hr] at H
      simp (disch := omega) [hw]
      exact H
    · simp (disch := omega) [hw]
      refine RefMany_c hB hl hw ?_
      by_cases hf : f < 0 ∨ (many l.length o : Int) < f
      · have hr : freeR l o f n = (0, 4) := by unfold freeR; rw [if_neg (by simp only [not_or]; exact ⟨hw, hn1⟩), if_pos hf]
        rw [hr] at H
        by_cases hf0 : f < 0
        · simp (disch := omega) [hf0]
          exact H
        · simp (disch := omega) [hf0]
          exact H
      · obtain ⟨f0, rfl⟩ := Int.eq_ofNat_of_zero_le (show 0 ≤ f by omega)
        obtain ⟨n0, rfl⟩ := Int.eq_ofNat_of_zero_le (show 0 ≤ n by omega)
        have hmb := many_bd l.length o
        have no := fun hs => freeR_no (l := l) (f := (f0 : Int)) hw hn1 (by omega) (by omega) hs
        have is := fun s hs => freeR_is (l := l) (f := (f0 : Int)) (s := s) hw hn1 (by omega) (by omega) hs
        simp only [Int.toNat_natCast] at no is
        simp (disch := omega)
        refine loopA1 (fun i : Nat => .int .i64 i) (fun i h' => h' = h ∧ f0 ≤ i ∧ i ≤ many l.length o + 1 ∧ ∀ s, f0 ≤ s → s < i → ¬ freeP l (wd o) n0 s) (fun i => many l.length o + 1 - i) f0 rfl ⟨rfl, by omega, by omega, fun s h1 h2 => by omega⟩ ?_
        rintro i h' ⟨rfl, hi, him, hno⟩
        by_cases hlast : i + n0 ≤ many l.length o
        · simp (disch := omega)
          refine loopA1 (fun k : Nat => .int .i64 k) (fun k h'' => h'' = h' ∧ k ≤ n0 ∧ ∀ j, j < k → cnt l (wd o) (i + j) = 0) (fun k => n0 - k) 0 rfl ⟨rfl, by omega, fun j hj => by omega⟩ ?_
          rintro k h'' ⟨rfl, hk, hz⟩
          by_cases hkn : k = n0
          · subst hkn
            rw [is i ⟨hi, hlast, hz, hno⟩] at H
            simp (disch := omega)
            exact H
          · simp (disch := omega)
            rw [show ((i : Int) + k) = ((i + k : Nat) : Int) by omega]
            refine RefAt_c hB hl hw (many_le (by omega)) ?_
            by_cases hc : cnt l (wd o) (i + k) = 0
            · simp (disch := omega) [hc]
              refine ⟨k + 1, by simp, ⟨by omega, fun j hj => ?_⟩, by omega⟩
              by_cases e : j = k
              · rw [e]; exact hc
              · exact hz _ (by omega)
            · have hc' : ¬ ((cnt l (wd o) (i + k) : Nat) : Int) = 0 := by omega
              simp (disch := omega) [hc']
              refine ⟨i + 1, by simp, ⟨by omega, by omega, fun s h1 h2 hp => ?_⟩, by omega⟩
              by_cases e : s = i
              · subst e; exact hc (hp k (by omega))
              · exact hno s h1 (by omega) hp
        · rw [no (fun s h1 h2 => hno s h1 (by omega))] at H
          by_cases hnm : n0 ≤ many l.length o
          · simp (disch := omega)
            exact H
          · simp (disch := omega)
            exact H

theorem Cknown_c (H : ∀ h', Ext h h' → K (.bool true) h') : CallsH Try.prog 41 #[] h K ⟨⟩ := by
  have w1 : wd 1 = 2 := by decide
  have e0 : setCE 4 1 5 2 = 0 := by decide
  have e1 : setC [(0 : UInt8), 0, 0, 0] 2 (5 : Int).toNat 2 = [0, 8, 0, 0] := by decide
  have e2 : getC [(0 : UInt8), 8, 0, 0] 1 5 = 2 := by decide
  have e3 : askE 4 1 5 = 0 := by decide
  have e4 : addCE [(0 : UInt8), 8, 0, 0] 1 5 2 = 3 := by decide
  have e5 : addCE [(0 : UInt8), 8, 0, 0] 1 5 1 = 0 := by decide
  have e6 : setC [(0 : UInt8), 8, 0, 0] 2 (5 : Int).toNat 3 = [0, 12, 0, 0] := by decide
  have e7 : freeR [(0 : UInt8), 12, 0, 0] 1 5 2 = (6, 0) := freeR_is (s := 6) (by decide) (by decide) (by decide) (by decide) ⟨by decide, by decide, by unfold freeP; decide, fun s h1 h2 => by
    have : s = 5 := by have : (5 : Int).toNat = 5 := rfl; omega
    subst this; unfold freeP; decide⟩
  have e9 : (List.replicate (4 : Int).toNat (Value.int .u8 0)) = ([(0 : UInt8), 0, 0, 0] ++ []).map byteV := by kernel_rfl
  have e11 : (4 : Int).toNat = 4 := rfl
  refine n41_calls ?_
  unfold n41
  simp (disch := omega) only [Try.mk39, ValT_iff, e9, e11]
  have hO0 : OwnS 1 (h.push (.cells (([(0 : UInt8), 0, 0, 0] ++ []).map byteV).toArray 5)) (.slice (some ⟨h.size, 0, none⟩) 4 4) (([(0 : UInt8), 0, 0, 0] ++ []).map byteV) := OwnS_new rfl rfl
  refine CSet_c (l := [(0 : UInt8), 0, 0, 0]) (x := 2) hO0 (by simp) (by simp) (fun _ _ e => absurd e0 e) (fun h1 h2 hE1 _ hO1 hM1 => ?_)
  rw [w1, e1] at hO1
  have hE2 : Ext h h2 := hM1.ext_from ((push_ext (.refl h)).trans hE1) (fun b hb hb' => by omega)
  refine CGet_c hO1.bytes (by simp) fun h3 hE3 => ?_
  simp (disch := omega) only [Hp_extract0, Hp_extract1, List.append_nil]
  rw [e2, show (List.length [(0 : UInt8), 8, 0, 0]) = 4 from rfl, e3]
  refine CAdd_c (l := [(0 : UInt8), 8, 0, 0]) (hO1.ext hE3) (by simp) (by simp) (fun h4 hE4 _ => ?_) (fun _ _ _ e => absurd (e4.symm.trans e) (by decide))
  rw [e4]
  simp (disch := omega) only [Hp_extract0, Hp_extract1]
  refine CAdd_c (l := [(0 : UInt8), 8, 0, 0]) ((hO1.ext hE3).ext hE4) (by simp) (by simp) (fun h5 hE5 e => absurd e5 e) (fun h5 h6 hE5 _ _ _ _ hO6 hM6 => ?_)
  rw [w1, e2] at hO6
  rw [e2]
  have hO6' : OwnS 1 h6 (.slice (some ⟨h.size, 0, none⟩) 4 4) ([(0 : UInt8), 12, 0, 0].map byteV) := by
    have := e6 ▸ hO6
    simpa using this
  have hE6 : Ext h h6 := hM6.ext_from (((hE2.trans hE3).trans hE4).trans hE5) (fun b hb hb' => by omega)
  simp (disch := omega) only [Hp_extract0, Hp_extract1]
  refine Free_c hO6'.bytes (by simp) (by simp) fun h7 hE7 => ?_
  rw [e7]
  have hc := (hO6'.ext hE7).seg.2.2 1 (by simp)
  simp at hc
  simp (disch := omega) [hc, byteV]
  exact H _ (hE6.trans hE7)

/-- One's own copy of bytes, and one byte more. -/
theorem mk77 {v : Value} {l : List UInt8} (hB : Bytes h v l) (hl : l.length < 1000000000)
    (H : ∀ B c h2, Ext h h2 → h.size ≤ B → l.length + 1 ≤ c → OwnS 1 h2 (.slice (some ⟨B, 0, none⟩) (l.length + 1) c) ((l ++ [77]).map byteV) → K (.slice (some ⟨B, 0, none⟩) (l.length + 1) c) h2) :
    Hp Try.prog false (Builtin.append_ #[39, 39] 39 #[.slice none 0 0, v]) (fun t1 h1 => Hp Try.prog false (Instr.buildSlice 39 1 #[(0, (.int .u8 77))]) (fun t2 h2 =>
      Hp Try.prog false (Builtin.append_ #[39, 39] 39 #[t1, t2]) K h2 ⟨⟩) h1 ⟨⟩) h ⟨⟩ := by
  refine Hp_appB (e := 5) (l := []) (by kernel_rfl) (by kernel_rfl) .nil hB (by simp; omega) fun v1 h1 hO1 hM1 hF1 _ => ?_
  have hE1 : Ext h h1 := hM1.ext (fun b _ e => by cases e)
  have hlt1 : ∀ b, blkV v1 = some b → h.size ≤ b := fun b hb => (hF1 b hb).resolve_left (by rintro ⟨⟩)
  simp (disch := omega)
  have hs77 : OwnS 1 (h1.push (.cells #[.int .u8 77] 5)) (.slice (some ⟨h1.size, 0, none⟩) 1 1) (([77] : List UInt8).map byteV) := OwnS_new (vs := [byteV 77]) rfl rfl
  refine Hp_appB1 (e := 5) (l := l) (by kernel_rfl) (by kernel_rfl) (hO1.ext (push_ext (.refl _))) hs77.bytes (by simp; omega) (by simp) fun B c h2 hO2 hM2 hF2 => ?_
  have hE2 : Ext h h2 := hM2.ext_from (push_ext hE1) (fun b hb hb' => by have := hlt1 b hb'; omega)
  have hBlt : h.size ≤ B := hF2.elim (hlt1 B) (fun x => by have := hE1.size; simp at x; omega)
  have hsg := hO2.seg
  simp only [List.length_cons, List.length_nil, Nat.zero_add] at hO2
  exact H B c h2 hE2 hBlt (by simpa using hsg.2.1) hO2
/-- What one's own bytes, and one more, give. -/
theorem pre77 {l l' : List UInt8} {B c : Nat} (hl' : l'.length = l.length) (hO : OwnS 1 h (.slice (some ⟨B, 0, none⟩) (l.length + 1) c) ((l' ++ [77]).map byteV)) :
    Bytes h (.slice (some ⟨B, 0, none⟩) l.length c) l' ∧ hcell h (elt ⟨B, 0, none⟩ l.length) = some (byteV 77) := by
  have h1 := (hO.pre (k := l.length) (by simp; omega)).1
  rw [← hl', List.take_left, hl'] at h1
  have h2 := hO.seg.2.2 l.length (by simp; omega)
  refine ⟨h1, ?_⟩
  rw [h2]
  simp [← hl']
end Go.Proofs.Ytmppolccfjfoaaa
