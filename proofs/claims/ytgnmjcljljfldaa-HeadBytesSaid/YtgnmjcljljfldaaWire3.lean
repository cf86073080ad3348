/- Contracts of layer 1's answers: texts; fields put behind one another. -/
import Derived.Test.YtgnmjcljljfldaaWire2
set_option linter.unusedSimpArgs false
set_option linter.unusedVariables false
namespace Go.Proofs.Ytgnmjcljljfldaa
open Go.Vc
variable {K : Value → Heap → Prop} {h : Heap}

theorem allZ_part {l : List UInt8} {i r : Nat} (hi : i < r) (hr : r ≤ l.length) : allZ ((l.take r).drop i) = (l[i]'(by omega) == 0 && allZ ((l.take r).drop (i + 1))) := by
  unfold allZ
  rw [List.drop_eq_getElem_cons (show i < (l.take r).length by simp; omega)]
  simp

/-- A slice of fields. -/
def Fields (h : Heap) (v : Value) (fs : List (List UInt8)) : Prop :=
  (v = .slice none 0 0 ∧ fs = []) ∨ ∃ a c, v = .slice (some a) fs.length c ∧ fs.length ≤ c ∧ ∀ (i : Nat) (hi : i < fs.length), ∃ u, hcell h (elt a i) = some u ∧ Bytes h u fs[i]

def total : List (List UInt8) → Nat
  | [] => 0
  | f :: fs => f.length + total fs
theorem total_append : ∀ (a b : List (List UInt8)), total (a ++ b) = total a + total b
  | [], b => by simp [total]
  | f :: a, b => by simp [total, total_append a b, Nat.add_assoc]
theorem flatten_length : ∀ (a : List (List UInt8)), a.flatten.length = total a
  | [] => rfl
  | f :: a => by simp [total, flatten_length a]
theorem total_take (fs : List (List UInt8)) (k : Nat) : total (fs.take k) ≤ total fs := by
  conv => rhs; rw [← List.take_append_drop k fs]
  rw [total_append]; omega

theorem Fields.ext {h' : Heap} {v : Value} {fs : List (List UInt8)} (f : Fields h v fs) (e : Ext h h') : Fields h' v fs := by
  rcases f with f | ⟨a, c, h1, h2, h3⟩
  · exact .inl f
  · exact .inr ⟨a, c, h1, h2, fun i hi => let ⟨u, hu, hb⟩ := h3 i hi; ⟨u, hcell_ext e hu, hb.ext e⟩⟩

theorem Join_c {v : Value} {fs : List (List UInt8)} (hF : Fields h v fs) (ht : total fs < 70368744177664) (hl : fs.length < 4611686018427387904)
    (H : ∀ v' h', OwnS 1 h' v' (fs.flatten.map byteV) → Ext h h' → (∀ b, blkV v' = some b → h.size ≤ b) → K v' h') : CallsH Try.prog 77 #[v] h K ⟨⟩ := by
  rcases hF with ⟨rfl, rfl⟩ | ⟨a, c, rfl, hc, hA⟩
  · refine n77_calls ?_
    unfold n77
    simp (disch := omega)
    refine loop2 (fun o i h' => h' = h ∧ o = .slice none 0 0 ∧ i = .int .i64 0) (fun _ _ _ => 0) ⟨rfl, rfl, rfl⟩ ?_
    rintro o i h' ⟨rfl, rfl, rfl⟩
    simp (disch := omega)
    exact H _ _ .nil (.refl _) (fun b hb => by cases hb)
  · refine n77_calls ?_
    unfold n77
    simp (disch := omega)
    refine loop2 (fun o i h' => ∃ k : Nat, k ≤ fs.length ∧ i = .int .i64 k ∧ OwnS 1 h' o ((fs.take k).flatten.map byteV) ∧ Ext h h' ∧ (∀ b, blkV o = some b → h.size ≤ b))
      (fun _ i _ => match i with | .int _ k => (fs.length - k).toNat | _ => 0) ⟨0, by omega, rfl, .nil, .refl _, fun b hb => by cases hb⟩ ?_
    rintro o i h' ⟨k, hk, rfl, hO, hE, hF⟩
    by_cases hkn : k = fs.length
    · subst hkn
      simp (disch := omega)
      rw [List.take_length] at hO
      exact H _ _ hO hE hF
    · obtain ⟨u, hu, hb⟩ := hA k (by omega)
      have hu' := hcell_ext hE hu
      simp (disch := omega) [hu']
      have h1 := flatten_length (fs.take k)
      have h2 := total_take fs (k + 1)
      rw [List.take_succ_eq_append_getElem (by omega), total_append] at h2
      simp only [total, Nat.add_zero] at h2
      refine Hp_appB (e := 5) (l := (fs.take k).flatten) (by kernel_rfl) (by kernel_rfl) hO (hb.ext hE) (by omega) fun v2 h2 hO2 hM2 hF2 _ => ?_
      simp (disch := omega) [-List.map_flatten]
      refine ⟨⟨k + 1, by omega, by simp, ?_, hM2.ext_from hE (fun b hb hb' => by have := hF b hb'; omega), fun b hb => (hF2 b hb).elim (hF b) (fun x => by have := hE.size; omega)⟩, by omega⟩
      have e : (fs.take (k + 1)).flatten = (fs.take k).flatten ++ fs[k] := by
        rw [List.take_succ_eq_append_getElem (by omega)]
        simp only [List.flatten_append, List.flatten_cons, List.flatten_nil, List.append_nil]
      rw [e]; exact hO2
end Go.Proofs.Ytgnmjcljljfldaa
