/- Layer 1: the chapter's rows. -/
import Derived.Test.YtmppolccfjfoaaaWire3
set_option linter.unusedSimpArgs false
set_option linter.unusedVariables false
namespace Go.Proofs.Ytmppolccfjfoaaa
open Go.Vc
variable {K : Value → Heap → Prop} {h : Heap}

theorem replB (n : Nat) : List.replicate n (Value.int .u8 0) = (List.replicate n (0 : UInt8)).map byteV := by rw [List.map_replicate]; rfl

/-- Writing a number into the beginning of one's own slice. -/
theorem SetO_c {B m c k : Nat} {L : List UInt8} {p n : Int} {x : Nat} (hO : OwnS 1 h (.slice (some ⟨B, 0, none⟩) m c) (L.map byteV)) (hk : k ≤ L.length) (hl : L.length < 4611686018427387904) (hx : x < 18446744073709551616)
    (H : setE k p n x ≠ 0 → K (.int .i64 (setE k p n x)) h)
    (H0 : ∀ h', setE k p n x = 0 → OwnS 1 h' (.slice (some ⟨B, 0, none⟩) m c) ((over L p.toNat (leB n.toNat x)).map byteV) → Mod (· = B) h h' → p.toNat + n.toNat ≤ k → K (.int .i64 0) h') : CallsH Try.prog 27 #[.slice (some ⟨B, 0, none⟩) k c, .int .i64 p, .int .i64 n, .int .u64 x] h K ⟨⟩ := by
  have hp := hO.pre hk
  have hlen : (L.take k).length = k := by simp; omega
  refine Set_c (l := L.take k) (p := p) (n := n) hp.1 (by omega) hx hp.2 (fun he => ?_) (fun he a c' ea h1 h2 h3 => ?_)
  · rw [hlen] at he ⊢; exact H he
  · rw [hlen] at he h1
    simp only [Value.slice.injEq, Option.some.injEq] at ea
    obtain ⟨rfl, -, rfl⟩ := ea
    have := hO.write (k := p.toNat) (new := (leB n.toNat x).map byteV) (by simp; omega)
    rw [← over_map] at this
    exact H0 _ he this (Mod.write ⟨B, 0, none⟩ _ _ _) h1

theorem SetTextO_c {B n c k : Nat} {L s : List UInt8} {p m : Int} (hO : OwnS 1 h (.slice (some ⟨B, 0, none⟩) n c) (L.map byteV)) (hk : k ≤ L.length) (hl : L.length < 4611686018427387904)
    (H : setTextE k p m s ≠ 0 → K (.int .i64 (setTextE k p m s)) h)
    (H0 : ∀ h', setTextE k p m s = 0 → OwnS 1 h' (.slice (some ⟨B, 0, none⟩) n c) ((over L p.toNat (fieldB m.toNat s)).map byteV) → Mod (· = B) h h' → p.toNat + 4 + m.toNat ≤ k → s.length ≤ m → K (.int .i64 0) h') :
    CallsH Try.prog 31 #[.slice (some ⟨B, 0, none⟩) k c, .int .i64 p, .int .i64 m, str s] h K ⟨⟩ := by
  have hp := hO.pre hk
  have hlen : (L.take k).length = k := by simp; omega
  refine SetText_c (l := L.take k) (p := p) (m := m) hp.1 (by omega) hp.2 (fun he => ?_) (fun he a c' ea h1 h2 h3 => ?_)
  · rw [hlen] at he ⊢; exact H he
  · rw [hlen] at he h3
    simp only [Value.slice.injEq, Option.some.injEq] at ea
    obtain ⟨rfl, -, rfl⟩ := ea
    have hfl := fieldB_length (m := m.toNat) (s := s) (by omega)
    have := hO.write (k := p.toNat) (new := (fieldB m.toNat s).map byteV) (by simp; omega)
    rw [← over_map] at this
    exact H0 _ he this (Mod.write ⟨B, 0, none⟩ _ _ _) h3 h2

theorem wire_known_c (H : ∀ h', Ext h h' → K (.bool true) h') : CallsH Try.prog 23 #[] h K ⟨⟩ := by
  have hE0 : setE 4 1 2 258 = 0 := by kernel_rfl
  have e2 : over [(0 : UInt8), 0, 0, 0] (1 : Int).toNat (leB (2 : Int).toNat 258) = [0, 2, 1, 0] := by kernel_rfl
  have e3 : getR [0, 2, 1, 0] 1 2 = (258, 0) := by kernel_rfl
  have e4 : getR [0, 2, 1, 0] 0 9 = (0, 2) := by kernel_rfl
  have e5 : setTextE 7 0 3 [97, 98] = 0 := by kernel_rfl
  have e7 : over [(0 : UInt8), 0, 0, 0, 0, 0, 0] (0 : Int).toNat (fieldB (3 : Int).toNat [97, 98]) = [2, 0, 0, 0, 97, 98, 0] := by kernel_rfl
  have e8 : textR [2, 0, 0, 0, 97, 98, 0] 0 3 = ([97, 98], 0) := by kernel_rfl
  have e9 : (List.replicate (4 : Int).toNat (Value.int .u8 0)) = [(0 : UInt8), 0, 0, 0].map byteV := by kernel_rfl
  have e10 : (List.replicate (7 : Int).toNat (Value.int .u8 0)) = [(0 : UInt8), 0, 0, 0, 0, 0, 0].map byteV := by kernel_rfl
  have e11 : (4 : Int).toNat = 4 := rfl
  have e12 : (7 : Int).toNat = 7 := rfl
  refine n23_calls ?_
  unfold n23
  simp (disch := omega) only [Try.mk39, ValT_iff, e9, e11]
  have hO0 : OwnS 1 (h.push (.cells ([(0 : UInt8), 0, 0, 0].map byteV).toArray 5)) (.slice (some ⟨h.size, 0, none⟩) 4 4) ([(0 : UInt8), 0, 0, 0].map byteV) := OwnS_new rfl rfl
  refine SetO_c (x := 258) hO0 (by simp) (by simp) (by omega) (fun e => absurd hE0 e) (fun h1 _ hO1 hM1 _ => ?_)
  rw [e2] at hO1
  have hE1 : Ext h h1 := hM1.ext_from (push_ext (.refl h)) (fun b hb hb' => by omega)
  have hb1 := hO1.bytes
  refine Get_c hb1 (by simp) ?_
  simp (disch := omega) only [Hp_extract0, Hp_extract1, e3]
  refine Get_c hb1 (by simp) ?_
  simp (disch := omega) only [Hp_extract0, Hp_extract1, Try.mk39, ValT_iff, e4, e10, e12]
  have hO2 : OwnS 1 (h1.push (.cells ([(0 : UInt8), 0, 0, 0, 0, 0, 0].map byteV).toArray 5)) (.slice (some ⟨h1.size, 0, none⟩) 7 7) ([(0 : UInt8), 0, 0, 0, 0, 0, 0].map byteV) := OwnS_new rfl rfl
  refine SetTextO_c hO2 (by simp) (by simp) (fun e => absurd e5 e) (fun h2 _ hO3 hM2 _ _ => ?_)
  rw [e7] at hO3
  have hE2 : Ext h1 h2 := hM2.ext_from (push_ext (.refl h1)) (fun b hb hb' => by omega)
  refine Text_c hO3.bytes (by simp) ?_
  have hb := hb1.ext hE2
  simp (disch := omega) [Try.cv39_9 hb, e8]
  exact H _ (hE1.trans hE2)
end Go.Proofs.Ytmppolccfjfoaaa
