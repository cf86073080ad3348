/- One's own copy of bytes, and one byte more. -/
import Derived.Test.YtgnmjcljljfldaaFacts
import Derived.Test.YtgnmjcljljfldaaCnt
set_option linter.unusedSimpArgs false
set_option linter.unusedVariables false
namespace Go.Proofs.Ytgnmjcljljfldaa
open Go.Vc
variable {K : Value → Heap → Prop} {h : Heap}

/-- One's own copy of bytes, and one byte more. -/
theorem mk77 {v : Value} {l : List UInt8} (hB : Bytes h v l) (hl : l.length < 1000000000)
    (H : ∀ B c h2, Ext h h2 → h.size ≤ B → l.length + 1 ≤ c → OwnS 1 h2 (.slice (some ⟨B, 0, none⟩) (l.length + 1) c) ((l ++ [77]).map byteV) → K (.slice (some ⟨B, 0, none⟩) (l.length + 1) c) h2) :
    Hp Try.prog false (Builtin.append_ #[26, 26] 26 #[.slice none 0 0, v]) (fun t1 h1 => Hp Try.prog false (Instr.buildSlice 26 1 #[(0, (.int .u8 77))]) (fun t2 h2 =>
      Hp Try.prog false (Builtin.append_ #[26, 26] 26 #[t1, t2]) K h2 ⟨⟩) h1 ⟨⟩) h ⟨⟩ := by
  refine Hp_appB (e := 5) (l := []) (by kernel_rfl) (by kernel_rfl) .nil hB (by simp; omega) fun v1 h1 hO1 hM1 hF1 _ => ?_
  have hE1 : Ext h h1 := hM1.ext (fun b _ e => by cases e)
  have hlt1 : ∀ b, blkV v1 = some b → h.size ≤ b := fun b hb => (hF1 b hb).resolve_left (by rintro ⟨⟩)
  simp (disch := omega)
  have hs77 : OwnS 1 (h1.push (.cells #[.int .u8 77] 5)) (.slice (some ⟨h1.size, 0, none⟩) 1 1) (([77] : List UInt8).map byteV) := OwnS_new (vs := [byteV 77]) rfl rfl
  refine Hp_appB1 (e := 5) (l := l) (by kernel_rfl) (by kernel_rfl) (hO1.ext (push_ext (.refl _))) hs77.bytes (by simp; omega) (by simp) fun B c h2 hO2 hM2 hF2 => ?_
  have hE2 : Ext h h2 := hM2.ext_from (push_ext hE1) (fun b hb hb' => by have := hlt1 b hb'; omega)
  have hBlt : h.size ≤ B := hF2.elim (hlt1 B) (fun x => by have := hE1.size; simp at x; omega)
  have hsg := hO2.seg
  simp only [List.length_cons, List.length_nil, Nat.zero_add] at hO2
  exact H B c h2 hE2 hBlt (by simpa using hsg.2.1) hO2
/-- What one's own bytes, and one more, give. -/
theorem pre77 {l l' : List UInt8} {B c : Nat} (hl' : l'.length = l.length) (hO : OwnS 1 h (.slice (some ⟨B, 0, none⟩) (l.length + 1) c) ((l' ++ [77]).map byteV)) :
    Bytes h (.slice (some ⟨B, 0, none⟩) l.length c) l' ∧ hcell h (elt ⟨B, 0, none⟩ l.length) = some (byteV 77) := by
  have h1 := (hO.pre (k := l.length) (by simp; omega)).1
  rw [← hl', List.take_left, hl'] at h1
  have h2 := hO.seg.2.2 l.length (by simp; omega)
  refine ⟨h1, ?_⟩
  rw [h2]
  simp [← hl']
end Go.Proofs.Ytgnmjcljljfldaa
