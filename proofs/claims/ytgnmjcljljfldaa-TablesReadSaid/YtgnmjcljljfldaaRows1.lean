/- Tables: rows that may be, and their bytes. -/
import Derived.Test.YtgnmjcljljfldaaRws
import Derived.Test.YtgnmjcljljfldaaTab2
set_option linter.unusedSimpArgs false
set_option linter.unusedVariables false
namespace Go.Proofs.Ytgnmjcljljfldaa
open Go.Vc
variable {K : Value → Heap → Prop} {h : Heap}

def RwOk (x : Rw) (b : Int) : Prop := NameOk x.name ∧ (9 ≤ x.gran ∧ x.gran ≤ 31 ∧ 0 ≤ x.flags ∧ x.flags ≤ 3) ∧ (x.place = 0 ∧ x.len = 0 ∨ PlaceOk x.place b ∧ 1 ≤ x.len ∧ x.len ≤ 16777216)
instance (x : Rw) (b : Int) : Decidable (RwOk x b) := by unfold RwOk; infer_instance

theorem row_c {n : List UInt8} {g fl p m b : Int} (h0 : 9 ≤ b) (h1 : b ≤ 16) (ht : ∀ h', Ext h h' → RwOk ⟨n, g, fl, p, m⟩ b → K (.bool true) h') (hf : ∀ h', Ext h h' → ¬ RwOk ⟨n, g, fl, p, m⟩ b → K (.bool false) h') :
    CallsH Try.prog 34 #[.agg #[str n, .int .i64 g, .int .i64 fl, .int .i64 p, .int .i64 m], .int .i64 b] h K ⟨⟩ := by
  have ht := ht _ (push_ext (o := .cells #[str n, .int .i64 g, .int .i64 fl, .int .i64 p, .int .i64 m] 25) (.refl h))
  have hf := hf _ (push_ext (o := .cells #[str n, .int .i64 g, .int .i64 fl, .int .i64 p, .int .i64 m] 25) (.refl h))
  refine n34_calls ?_
  unfold n34
  by_cases hn : NameOk n
  · by_cases hp : PlaceOk p b
    · simp only [RwOk, hn, hp, true_and, and_true] at ht hf
      ((try (simp (disch := omega))); repeat' ((first | (refine Split.mk (fun _ => ?_) (fun _ => ?_)) | (refine named_c (fun _ => ?_) (fun x => absurd hn x)) | (refine place_c h0 h1 (fun _ => ?_) (fun x => absurd hp x))) <;> ((try (simp (disch := omega))))))
      all_goals first | exact ht (by omega) | exact hf (by omega)
    · simp only [RwOk, hn, hp, true_and, false_and, or_false] at ht hf
      ((try (simp (disch := omega))); repeat' ((first | (refine Split.mk (fun _ => ?_) (fun _ => ?_)) | (refine named_c (fun _ => ?_) (fun x => absurd hn x)) | (refine place_c h0 h1 (fun x => absurd x hp) (fun _ => ?_))) <;> ((try (simp (disch := omega))))))
      all_goals first | exact ht (by omega) | exact hf (by omega)
  · replace hf := hf fun x => hn x.1
    ((try (simp (disch := omega))); repeat' ((first | (refine Split.mk (fun _ => ?_) (fun _ => ?_)) | (refine named_c (fun x => absurd x hn) (fun _ => ?_))) <;> ((try (simp (disch := omega))))))
    all_goals exact hf

theorem MayRow_c {n : List UInt8} {g fl p m b : Int} (hl : n.length < 9223372036854775808) (h0 : 9 ≤ b) (h1 : b ≤ 16) (ht : ∀ h', Ext h h' → RwOk ⟨n, g, fl, p, m⟩ b → K (.bool true) h') (hf : ∀ h', Ext h h' → ¬ RwOk ⟨n, g, fl, p, m⟩ b → K (.bool false) h') :
    CallsH Try.prog 36 #[.agg #[str n, .int .i64 g, .int .i64 fl, .int .i64 p, .int .i64 m], .int .i64 b] h K ⟨⟩ := by
  have ht := ht _ (push_ext (o := .cells #[str n, .int .i64 g, .int .i64 fl, .int .i64 p, .int .i64 m] 25) (.refl h))
  have hf := hf _ (push_ext (o := .cells #[str n, .int .i64 g, .int .i64 fl, .int .i64 p, .int .i64 m] 25) (.refl h))
  refine n36_calls ?_
  unfold n36
  by_cases hn : NameOk n
  · by_cases hp : PlaceOk p b
    · simp only [RwOk, hn, hp, true_and, and_true] at ht hf
      ((try (simp (disch := omega))); repeat' ((first | (refine Split.mk (fun _ => ?_) (fun _ => ?_)) | (refine Place_c h0 h1 (fun _ => ?_) (fun x => absurd hp x)) | (refine RefNamed_c hl (fun _ => ?_) (fun x => absurd hn x))) <;> ((try (simp (disch := omega))))))
      all_goals first | exact ht (by omega) | exact hf (by omega)
    · simp only [RwOk, hn, hp, true_and, false_and, or_false] at ht hf
      ((try (simp (disch := omega))); repeat' ((first | (refine Split.mk (fun _ => ?_) (fun _ => ?_)) | (refine Place_c h0 h1 (fun x => absurd x hp) (fun _ => ?_)) | (refine RefNamed_c hl (fun _ => ?_) (fun x => absurd hn x))) <;> ((try (simp (disch := omega))))))
      all_goals first | exact ht (by omega) | exact hf (by omega)
  · replace hf := hf fun x => hn x.1
    ((try (simp (disch := omega))); repeat' ((first | (refine Split.mk (fun _ => ?_) (fun _ => ?_)) | (refine Place_c h0 h1 (fun _ => ?_) (fun _ => ?_)) | (refine RefNamed_c hl (fun x => absurd x hn) (fun _ => ?_))) <;> ((try (simp (disch := omega))))))
    all_goals exact hf

/-- A row's bytes. -/
def Rw.bytes (x : Rw) : List UInt8 := UInt8.ofNat (x.name.length % 256) :: (x.name ++ leB 1 x.gran.toNat ++ leB 1 x.flags.toNat ++ leB 8 x.place.toNat ++ leB 4 x.len.toNat)

theorem join6_c {hf : Heap} {u1 u2 u3 u4 u5 u6 : Value} {L1 L2 L3 L4 L5 L6 : List UInt8} (hE : Ext h hf) (b1 : Bytes hf u1 L1) (b2 : Bytes hf u2 L2) (b3 : Bytes hf u3 L3) (b4 : Bytes hf u4 L4) (b5 : Bytes hf u5 L5) (b6 : Bytes hf u6 L6)
    (hl : L1.length + L2.length + L3.length + L4.length + L5.length + L6.length < 1000000)
    (H : ∀ v h', OwnS 1 h' v ((L1 ++ (L2 ++ (L3 ++ (L4 ++ (L5 ++ L6))))).map byteV) → Ext h h' → (∀ b, blkV v = some b → h.size ≤ b) → K v h') :
    CallsH Try.prog 77 #[.slice (some ⟨hf.size, 0, none⟩) 6 6] (hf.push (.cells #[u1, u2, u3, u4, u5, u6] 26)) K ⟨⟩ := by
  have e1 : Ext hf (hf.push (.cells #[u1, u2, u3, u4, u5, u6] 26)) := (by repeat' (first | (with_reducible exact Ext.refl _) | (with_reducible assumption) | (with_reducible refine push_ext ?_) | (with_reducible refine hset_ext ?_ ?_) | (with_reducible refine Ext.trans ?_ (by assumption)) | omega | (simp; done) | (simp; omega) | (refine Ext.size ?_) | (refine Nat.le_succ_of_le (Ext.size ?_))))
  have hF : Fields (hf.push (.cells #[u1, u2, u3, u4, u5, u6] 26)) (.slice (some ⟨hf.size, 0, none⟩) 6 6) [L1, L2, L3, L4, L5, L6] := by
    refine .inr ⟨_, 6, rfl, by simp, fun i hi => ?_⟩
    rw [elt_mk]
    match i, hi with
    | 0, _ => exact ⟨u1, by simp, b1.ext e1⟩
    | 1, _ => exact ⟨u2, by simp, b2.ext e1⟩
    | 2, _ => exact ⟨u3, by simp, b3.ext e1⟩
    | 3, _ => exact ⟨u4, by simp, b4.ext e1⟩
    | 4, _ => exact ⟨u5, by simp, b5.ext e1⟩
    | 5, _ => exact ⟨u6, by simp, b6.ext e1⟩
  have hz := hE.size
  refine Join_c hF (by simp [total]; omega) (by simp) fun v h' hO e hf => ?_
  exact H v h' (by simpa using hO) (hE.trans (e1.trans e)) (fun b hb => by have := hf b hb; simp at this; omega)

set_option maxHeartbeats 4000000 in
theorem rowBytes_c {n : List UInt8} {g fl p m b : Int} (hk : RwOk ⟨n, g, fl, p, m⟩ b) (H : ∀ v h', OwnS 1 h' v ((Rw.bytes ⟨n, g, fl, p, m⟩).map byteV) → Ext h h' → (∀ b, blkV v = some b → h.size ≤ b) → K v h') :
    CallsH Try.prog 35 #[.agg #[str n, .int .i64 g, .int .i64 fl, .int .i64 p, .int .i64 m]] h K ⟨⟩ := by
  obtain ⟨⟨n1, n2, -⟩, ⟨g0, g1, f0, f1⟩, hl⟩ := hk
  dsimp only at n1 n2 g0 g1 f0 f1 hl
  have hl0 : 0 ≤ p ∧ p ≤ 268435456 ∧ 0 ≤ m ∧ m ≤ 16777216 := by rcases hl with hl | ⟨hl1, hl2⟩; omega; have := hl1.1; have := hl1.2.1; omega
  refine n35_calls ?_
  unfold n35
  refine (⟨_, rfl⟩ : ∃ g', g' = h.push (.cells #[str n, .int .i64 g, .int .i64 fl, .int .i64 p, .int .i64 m] 25)).elim fun g' eg => ?_
  simp (disch := omega) [← eg]
  have hg : Ext h g' := by rw [eg]; exact (by repeat' (first | (with_reducible exact Ext.refl _) | (with_reducible assumption) | (with_reducible refine push_ext ?_) | (with_reducible refine hset_ext ?_ ?_) | (with_reducible refine Ext.trans ?_ (by assumption)) | omega | (simp; done) | (simp; omega) | (refine Ext.size ?_) | (refine Nat.le_succ_of_le (Ext.size ?_))))
  have c0 : hcell g' ⟨h.size, 0, none⟩ = some (str n) := by simp [eg]
  have c1 : hcell g' ⟨h.size, 1, none⟩ = some (.int .i64 g) := by simp [eg]
  have c2 : hcell g' ⟨h.size, 2, none⟩ = some (.int .i64 fl) := by simp [eg]
  have c3 : hcell g' ⟨h.size, 3, none⟩ = some (.int .i64 p) := by simp [eg]
  have c4 : hcell g' ⟨h.size, 4, none⟩ = some (.int .i64 m) := by simp [eg]
  have zg : g'.size = h.size + 1 := by simp [eg]
  clear eg
  have hx1 : (n.length : Int).toNat < 256 ^ (1 : Int).toNat := by rw [show (256 : Nat) ^ (1 : Int).toNat = 256 by decide]; omega
  have hx3 : g.toNat < 256 ^ (1 : Int).toNat := by rw [show (256 : Nat) ^ (1 : Int).toNat = 256 by decide]; omega
  have hx4 : fl.toNat < 256 ^ (1 : Int).toNat := by rw [show (256 : Nat) ^ (1 : Int).toNat = 256 by decide]; omega
  have hx5 : p.toNat < 256 ^ (8 : Int).toNat := by rw [show (256 : Nat) ^ (8 : Int).toNat = 18446744073709551616 by decide]; omega
  have hx6 : m.toNat < 256 ^ (4 : Int).toNat := by rw [show (256 : Nat) ^ (4 : Int).toNat = 4294967296 by decide]; omega
  refine JoinN.mk ?_
  have eN : Ext g' g' := .refl _
  simp (disch := omega) [c0, c1, c2, c3, c4]
  repeat' (first | (refine And.intro ?_ ?_) | (refine number_c (x := (n.length : Int)) (n := 1) (by omega) (by omega) (by omega) hx1 (fun v1 h1 hO1 e1 _ => ?_); (try replace hO1 := hO1.ext e1); (try replace hO2 := hO2.ext e1); (try replace hO3 := hO3.ext e1); (try replace hO4 := hO4.ext e1); (try replace hO5 := hO5.ext e1); (try replace hO6 := hO6.ext e1); (refine hO1.bytes.form.elim fun o1 hx => hx.elim fun q1 hv1 => ?_); (replace eN := eN.trans e1); (have cN := ext_cell eN rfl); (try simp (disch := omega) [cN, c0, c1, c2, c3, c4])) | (refine number_c (x := g) (n := 1) (by omega) (by omega) (by omega) hx3 (fun v3 h3 hO3 e3 _ => ?_); (try replace hO1 := hO1.ext e3); (try replace hO2 := hO2.ext e3); (try replace hO3 := hO3.ext e3); (try replace hO4 := hO4.ext e3); (try replace hO5 := hO5.ext e3); (try replace hO6 := hO6.ext e3); (refine hO3.bytes.form.elim fun o3 hx => hx.elim fun q3 hv3 => ?_); (replace eN := eN.trans e3); (have cN := ext_cell eN rfl); (try simp (disch := omega) [cN, c0, c1, c2, c3, c4])) | (refine number_c (x := fl) (n := 1) (by omega) (by omega) (by omega) hx4 (fun v4 h4 hO4 e4 _ => ?_); (try replace hO1 := hO1.ext e4); (try replace hO2 := hO2.ext e4); (try replace hO3 := hO3.ext e4); (try replace hO4 := hO4.ext e4); (try replace hO5 := hO5.ext e4); (try replace hO6 := hO6.ext e4); (refine hO4.bytes.form.elim fun o4 hx => hx.elim fun q4 hv4 => ?_); (replace eN := eN.trans e4); (have cN := ext_cell eN rfl); (try simp (disch := omega) [cN, c0, c1, c2, c3, c4])) | (refine number_c (x := p) (n := 8) (by omega) (by omega) (by omega) hx5 (fun v5 h5 hO5 e5 _ => ?_); (try replace hO1 := hO1.ext e5); (try replace hO2 := hO2.ext e5); (try replace hO3 := hO3.ext e5); (try replace hO4 := hO4.ext e5); (try replace hO5 := hO5.ext e5); (try replace hO6 := hO6.ext e5); (refine hO5.bytes.form.elim fun o5 hx => hx.elim fun q5 hv5 => ?_); (replace eN := eN.trans e5); (have cN := ext_cell eN rfl); (try simp (disch := omega) [cN, c0, c1, c2, c3, c4])) | (refine number_c (x := m) (n := 4) (by omega) (by omega) (by omega) hx6 (fun v6 h6 hO6 e6 _ => ?_); (try replace hO1 := hO1.ext e6); (try replace hO2 := hO2.ext e6); (try replace hO3 := hO3.ext e6); (try replace hO4 := hO4.ext e6); (try replace hO5 := hO5.ext e6); (try replace hO6 := hO6.ext e6); (refine hO6.bytes.form.elim fun o6 hx => hx.elim fun q6 hv6 => ?_); (replace eN := eN.trans e6); (have cN := ext_cell eN rfl); (try simp (disch := omega) [cN, c0, c1, c2, c3, c4])) | (refine cvB_c (by omega) (fun v2 h2 hO2 e2 _ => ?_); (try replace hO1 := hO1.ext e2); (try replace hO2 := hO2.ext e2); (try replace hO3 := hO3.ext e2); (try replace hO4 := hO4.ext e2); (try replace hO5 := hO5.ext e2); (try replace hO6 := hO6.ext e2); (refine hO2.bytes.form.elim fun o2 hx => hx.elim fun q2 hv2 => ?_); (replace eN := eN.trans e2); (have cN := ext_cell eN rfl); (try simp (disch := omega) [cN, c0, c1, c2, c3, c4])))
  all_goals simp (disch := omega) [hv1, hv2, hv3, hv4, hv5, hv6]
  all_goals
    rw [hv1] at hO1
    rw [hv2] at hO2
    rw [hv3] at hO3
    rw [hv4] at hO4
    rw [hv5] at hO5
    rw [hv6] at hO6
    refine join6_c (hg.trans eN) hO1.bytes hO2.bytes hO3.bytes hO4.bytes hO5.bytes hO6.bytes (by simp; omega) fun v h' hO e hF => ?_
    refine H v h' ?_ e hF
    have : Rw.bytes ⟨n, g, fl, p, m⟩ = leB (1 : Int).toNat (n.length : Int).toNat ++ (n ++ (leB (1 : Int).toNat g.toNat ++ (leB (1 : Int).toNat fl.toNat ++ (leB (8 : Int).toNat p.toNat ++ leB (4 : Int).toNat m.toNat)))) := by
      unfold Rw.bytes
      simp [leB]
    rw [this]
    exact hO
end Go.Proofs.Ytgnmjcljljfldaa
