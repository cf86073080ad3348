/- Layer 1: the chapter's rows. -/
import Derived.Test.YtgnmjcljljfldaaWire3
set_option linter.unusedSimpArgs false
set_option linter.unusedVariables false
namespace Go.Proofs.Ytgnmjcljljfldaa
open Go.Vc
variable {K : Value → Heap → Prop} {h : Heap}

theorem replB (n : Nat) : List.replicate n (Value.int .u8 0) = (List.replicate n (0 : UInt8)).map byteV := by rw [List.map_replicate]; rfl

/-- Writing a number into the beginning of one's own slice. -/
theorem SetO_c {B m c k : Nat} {L : List UInt8} {p n : Int} {x : Nat} (hO : OwnS 1 h (.slice (some ⟨B, 0, none⟩) m c) (L.map byteV)) (hk : k ≤ L.length) (hl : L.length < 4611686018427387904) (hx : x < 18446744073709551616)
    (H : setE k p n x ≠ 0 → K (.int .i64 (setE k p n x)) h)
    (H0 : ∀ h', setE k p n x = 0 → OwnS 1 h' (.slice (some ⟨B, 0, none⟩) m c) ((over L p.toNat (leB n.toNat x)).map byteV) → Mod (· = B) h h' → p.toNat + n.toNat ≤ k → K (.int .i64 0) h') : CallsH Try.prog 56 #[.slice (some ⟨B, 0, none⟩) k c, .int .i64 p, .int .i64 n, .int .u64 x] h K ⟨⟩ := by
  have hp := hO.pre hk
  have hlen : (L.take k).length = k := by simp; omega
  refine Set_c (l := L.take k) (p := p) (n := n) hp.1 (by omega) hx hp.2 (fun he => ?_) (fun he a c' ea h1 h2 h3 => ?_)
  · rw [hlen] at he ⊢; exact H he
  · rw [hlen] at he h1
    simp only [Value.slice.injEq, Option.some.injEq] at ea
    obtain ⟨rfl, -, rfl⟩ := ea
    have := hO.write (k := p.toNat) (new := (leB n.toNat x).map byteV) (by simp; omega)
    rw [← over_map] at this
    exact H0 _ he this (Mod.write ⟨B, 0, none⟩ _ _ _) h1

theorem SetTextO_c {B n c k : Nat} {L s : List UInt8} {p m : Int} (hO : OwnS 1 h (.slice (some ⟨B, 0, none⟩) n c) (L.map byteV)) (hk : k ≤ L.length) (hl : L.length < 4611686018427387904)
    (H : setTextE k p m s ≠ 0 → K (.int .i64 (setTextE k p m s)) h)
    (H0 : ∀ h', setTextE k p m s = 0 → OwnS 1 h' (.slice (some ⟨B, 0, none⟩) n c) ((over L p.toNat (fieldB m.toNat s)).map byteV) → Mod (· = B) h h' → p.toNat + 4 + m.toNat ≤ k → s.length ≤ m → K (.int .i64 0) h') :
    CallsH Try.prog 57 #[.slice (some ⟨B, 0, none⟩) k c, .int .i64 p, .int .i64 m, str s] h K ⟨⟩ := by
  have hp := hO.pre hk
  have hlen : (L.take k).length = k := by simp; omega
  refine SetText_c (l := L.take k) (p := p) (m := m) hp.1 (by omega) hp.2 (fun he => ?_) (fun he a c' ea h1 h2 h3 => ?_)
  · rw [hlen] at he ⊢; exact H he
  · rw [hlen] at he h3
    simp only [Value.slice.injEq, Option.some.injEq] at ea
    obtain ⟨rfl, -, rfl⟩ := ea
    have hfl := fieldB_length (m := m.toNat) (s := s) (by omega)
    have := hO.write (k := p.toNat) (new := (fieldB m.toNat s).map byteV) (by simp; omega)
    rw [← over_map] at this
    exact H0 _ he this (Mod.write ⟨B, 0, none⟩ _ _ _) h3 h2

end Go.Proofs.Ytgnmjcljljfldaa
