/- Tables: a row is read. -/
import Derived.Test.YtgnmjcljljfldaaRows3
import Derived.Test.YtgnmjcljljfldaaTab5
set_option linter.unusedSimpArgs false
set_option linter.unusedVariables false
namespace Go.Proofs.Ytgnmjcljljfldaa
open Go.Vc
variable {K : Value → Heap → Prop} {h : Heap}

/-- A snapshot that is read. -/
def rowV (l : List UInt8) (p : Nat) (f : Bool) : Rw × Nat × Bool :=
  let q := (nameV l p f).2.1
  (⟨(nameV l p f).1, (numV l q 1).1, (numV l (q + 1) 1).1, (numV l (q + 1 + 1) 8).1, (numV l (q + 1 + 1 + 8) 4).1⟩, q + 1 + 1 + 8 + 4, (((((nameV l p f).2.2 && (numV l q 1).2) && (numV l (q + 1) 1).2) && (numV l (q + 1 + 1) 8).2) && (numV l (q + 1 + 1 + 8) 4).2))

theorem RdRow_c {B : Nat} {v : Value} {l : List UInt8} {p : Nat} {f : Bool} (hB : Bytes h v l) (hl : l.length < 100000000) (hR : Rd h B v p f) (hp : p < 400000000) (hvB : ∀ b, blkV v = some b → l ≠ [] → b ≠ B)
    (H : ∀ h', Mod (· = B) h h' → Rd h' B v (rowV l p f).2.1 (rowV l p f).2.2 → K (.agg (rowV l p f).1.cells.toArray) h') :
    CallsH Try.prog 40 #[.pointer (some ⟨B, 0, none⟩)] h K ⟨⟩ := by
  have hlt := hR.1.lt
  have hq := nameV_le (l := l) (p := p) (f := f)
  unfold rowV at H
  simp only [Rw.cells] at H
  refine n40_calls ?_
  unfold n40
  have e0 : Ext h (h.push (.cells #[str [], .int .i64 0, .int .i64 0, .int .i64 0, .int .i64 0] 25)) := (by repeat' (first | (with_reducible exact Ext.refl _) | (with_reducible assumption) | (with_reducible refine push_ext ?_) | (with_reducible refine hset_ext ?_ ?_) | (with_reducible refine Ext.trans ?_ (by assumption)) | omega | (simp; done) | (simp; omega) | (refine Ext.size ?_) | (refine Nat.le_succ_of_le (Ext.size ?_))))
  simp (disch := omega)
  refine RdName_c (hB.ext e0) hl (hR.ext e0) (by omega) hvB fun h1 m1 hR1 => ?_
  have M1 : Mod (· = B) h h1 := (Mod.of_ext e0).trans m1 (fun b _ e => e)
  have s1 := m1.size
  simp at s1
  have z0 : Cel h1 h.size 0 (str []) := Cel.mod (h := h.push (.cells #[str [], .int .i64 0, .int .i64 0, .int .i64 0, .int .i64 0] 25)) ⟨by simp, by simp⟩ m1 (by omega)
  have z1 : Cel h1 h.size 1 (.int .i64 0) := Cel.mod (h := h.push (.cells #[str [], .int .i64 0, .int .i64 0, .int .i64 0, .int .i64 0] 25)) ⟨by simp, by simp⟩ m1 (by omega)
  have z2 : Cel h1 h.size 2 (.int .i64 0) := Cel.mod (h := h.push (.cells #[str [], .int .i64 0, .int .i64 0, .int .i64 0, .int .i64 0] 25)) ⟨by simp, by simp⟩ m1 (by omega)
  have z3 : Cel h1 h.size 3 (.int .i64 0) := Cel.mod (h := h.push (.cells #[str [], .int .i64 0, .int .i64 0, .int .i64 0, .int .i64 0] 25)) ⟨by simp, by simp⟩ m1 (by omega)
  have z4 : Cel h1 h.size 4 (.int .i64 0) := Cel.mod (h := h.push (.cells #[str [], .int .i64 0, .int .i64 0, .int .i64 0, .int .i64 0] 25)) ⟨by simp, by simp⟩ m1 (by omega)
  have hB1 : Bytes h1 v l := hB.modX M1 (fun b hn hb _ => hvB b hb hn)
  generalize hNV : nameV l p f = NV at *
  obtain ⟨nm, q, f1⟩ := NV
  dsimp only at hq hR1 H ⊢
  simp (disch := omega)
  refine (⟨_, rfl⟩ : ∃ g, g = hset (hset (hset (hset (hset (h1.push (.cells #[str [], .int .i64 0, .int .i64 0, .int .i64 0, .int .i64 0] 25)) ⟨h1.size, 0, none⟩ (str nm)) ⟨h1.size, 1, none⟩ (.int .i64 0)) ⟨h1.size, 2, none⟩ (.int .i64 0)) ⟨h1.size, 3, none⟩ (.int .i64 0)) ⟨h1.size, 4, none⟩ (.int .i64 0)).elim fun g eg => ?_
  simp only [← eg]
  have e1 : Ext h1 g := by rw [eg]; exact (by repeat' (first | (with_reducible exact Ext.refl _) | (with_reducible assumption) | (with_reducible refine push_ext ?_) | (with_reducible refine hset_ext ?_ ?_) | (with_reducible refine Ext.trans ?_ (by assumption)) | omega | (simp; done) | (simp; omega) | (refine Ext.size ?_) | (refine Nat.le_succ_of_le (Ext.size ?_))))
  have d0 : Cel g h1.size 0 (str nm) := by rw [eg]; exact ⟨by simp, by simp⟩
  have d1 : Cel g h1.size 1 (.int .i64 0) := by rw [eg]; exact ⟨by simp, by simp⟩
  have d2 : Cel g h1.size 2 (.int .i64 0) := by rw [eg]; exact ⟨by simp, by simp⟩
  have d3 : Cel g h1.size 3 (.int .i64 0) := by rw [eg]; exact ⟨by simp, by simp⟩
  have d4 : Cel g h1.size 4 (.int .i64 0) := by rw [eg]; exact ⟨by simp, by simp⟩
  clear eg
  have M2 : Mod (· = B) h g := M1.extIn e1
  refine RdNum_c (n := 1) (hB1.ext e1) (by omega) (hR1.ext e1) (by omega) (.inl rfl) fun h3 m3 hR3 => ?_
  have M3 := M2.trans m3 (fun b _ e => e)
  refine RdNum_c (n := 1) (hB.modX M3 (fun b hn hb _ => hvB b hb hn)) (by omega) hR3 (by omega) (.inl rfl) fun h4 m4 hR4 => ?_
  have M4 := M3.trans m4 (fun b _ e => e)
  refine RdNum_c (n := 8) (hB.modX M4 (fun b hn hb _ => hvB b hb hn)) (by omega) hR4 (by omega) (.inr (.inr rfl)) fun h5 m5 hR5 => ?_
  have M5 := M4.trans m5 (fun b _ e => e)
  refine RdNum_c (n := 4) (hB.modX M5 (fun b hn hb _ => hvB b hb hn)) (by omega) hR5 (by omega) (.inr (.inl rfl)) fun h6 m6 hR6 => ?_
  have M6 := M5.trans m6 (fun b _ e => e)
  have m35 := ((m3.trans m4 (fun b _ e => e)).trans m5 (fun b _ e => e)).trans m6 (fun b _ e => e)
  have m15 := (Mod.of_ext (S := (· = B)) e1).trans m35 (fun b _ e => e)
  have d0 := d0.mod m35 (by omega)
  have d1 := d1.mod m35 (by omega)
  have d2 := d2.mod m35 (by omega)
  have d3 := d3.mod m35 (by omega)
  have d4 := d4.mod m35 (by omega)
  have z0 := z0.mod m15 (by omega)
  have z1 := z1.mod m15 (by omega)
  have z2 := z2.mod m15 (by omega)
  have z3 := z3.mod m15 (by omega)
  have z4 := z4.mod m15 (by omega)
  generalize numV l q 1 = N1 at *
  generalize numV l (q + 1) 1 = N2 at *
  generalize numV l (q + 1 + 1) 8 = N3 at *
  generalize numV l (q + 1 + 1 + 8) 4 = N4 at *
  obtain ⟨n1, g1⟩ := N1
  obtain ⟨n2, g2⟩ := N2
  obtain ⟨n3, g3⟩ := N3
  obtain ⟨n4, g4⟩ := N4
  dsimp only at H hR6 ⊢
  simp (disch := omega) [d0.get, d1.get, d2.get, d3.get, d4.get, d1.free, d2.free, d3.free, d4.free, z0.get, z1.get, z2.get, z3.get, z4.get, z0.free, z1.free, z2.free, z3.free, z4.free]
  refine H _ (by repeat' (first | (with_reducible exact Mod.refl _ _) | (with_reducible assumption) | (with_reducible refine Mod.pushIn ?_) | (with_reducible refine Mod.setIn ?_ ?_) | (with_reducible refine Mod.putIn ?_ ?_) | (with_reducible refine Mod.extIn ?_ (by assumption)) | (exact Or.inr (by first | omega | (simp; done) | (simp; omega))) | (exact Or.inl (by first | (simp; done) | (simp; omega))))) ?_
  refine hR6.mod (S := fun x => x = h1.size ∨ x = h.size) (by repeat' (first | (with_reducible exact Mod.refl _ _) | (with_reducible assumption) | (with_reducible refine Mod.pushIn ?_) | (with_reducible refine Mod.setIn ?_ ?_) | (with_reducible refine Mod.putIn ?_ ?_) | (with_reducible refine Mod.extIn ?_ (by assumption)) | (exact Or.inr (by first | omega | (simp; done) | (simp; omega))) | (exact Or.inl (by first | (simp; done) | (simp; omega))))) (by omega)
end Go.Proofs.Ytgnmjcljljfldaa
