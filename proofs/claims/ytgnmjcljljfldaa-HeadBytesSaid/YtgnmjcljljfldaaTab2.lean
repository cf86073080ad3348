/- Tables: snapshots that may be, and their bytes. -/
import Derived.Test.YtgnmjcljljfldaaTab1
set_option linter.unusedSimpArgs false
set_option linter.unusedVariables false
namespace Go.Proofs.Ytgnmjcljljfldaa
open Go.Vc
variable {K : Value → Heap → Prop} {h : Heap}

/-- A snapshot. -/
structure Sn where
  name : List UInt8
  l1 : Int
  len : Int
  size : Int
deriving DecidableEq
def Sn.cells (x : Sn) : List Value := [str x.name, .int .i64 x.l1, .int .i64 x.len, .int .i64 x.size]
def SnOk (x : Sn) (b : Int) : Prop := NameOk x.name ∧ (0 ≤ x.size ∧ x.size ≤ 67108864 ∧ x.size % 512 = 0 ∧ 0 ≤ x.len ∧ x.len ≤ 1048576) ∧ (x.len = 0 ∧ x.l1 = 0 ∨ 0 < x.len ∧ PlaceOk x.l1 b)
instance (p b : Int) : Decidable (PlaceOk p b) := by unfold PlaceOk; infer_instance
instance (x : Sn) (b : Int) : Decidable (SnOk x b) := by unfold SnOk; infer_instance

theorem snap_c {n : List UInt8} {l m s b : Int} (h0 : 9 ≤ b) (h1 : b ≤ 16) (ht : ∀ h', Ext h h' → SnOk ⟨n, l, m, s⟩ b → K (.bool true) h') (hf : ∀ h', Ext h h' → ¬ SnOk ⟨n, l, m, s⟩ b → K (.bool false) h') :
    CallsH Try.prog 73 #[.agg #[str n, .int .i64 l, .int .i64 m, .int .i64 s], .int .i64 b] h K ⟨⟩ := by
  have ht := ht _ (push_ext (o := .cells #[str n, .int .i64 l, .int .i64 m, .int .i64 s] 61) (.refl h))
  have hf := hf _ (push_ext (o := .cells #[str n, .int .i64 l, .int .i64 m, .int .i64 s] 61) (.refl h))
  refine n73_calls ?_
  unfold n73
  simp (disch := omega)
  by_cases hn : NameOk n
  · refine named_c (fun _ => ?_) (fun x => absurd hn x)
    by_cases hp : PlaceOk l b
    · simp only [SnOk, hn, hp, true_and, and_true] at ht hf
      ((try (simp (disch := omega))); repeat' ((first | (refine Split.mk (fun _ => ?_) (fun _ => ?_)) | (refine place_c h0 h1 (fun _ => ?_) (fun x => absurd hp x))) <;> ((try (simp (disch := omega))))))
      all_goals first | exact ht (by omega) | exact hf (by omega)
    · simp only [SnOk, hn, hp, true_and, and_false, or_false] at ht hf
      ((try (simp (disch := omega))); repeat' ((first | (refine Split.mk (fun _ => ?_) (fun _ => ?_)) | (refine place_c h0 h1 (fun x => absurd x hp) (fun _ => ?_))) <;> ((try (simp (disch := omega))))))
      all_goals first | exact ht (by omega) | exact hf (by omega)
  · refine named_c (fun x => absurd x hn) (fun _ => ?_)
    simp (disch := omega)
    exact hf fun x => hn x.1

theorem RefNamed_c {l : List UInt8} (hl : l.length < 9223372036854775808) (ht : NameOk l → K (.bool true) h) (hf : ¬ NameOk l → K (.bool false) h) : CallsH Try.prog 79 #[str l] h K ⟨⟩ := by
  refine n79_calls ?_
  unfold n79
  refine loopA1 (fun k : Nat => .int .i64 k) (fun k h' => h' = h ∧ k ≤ l.length ∧ ∀ j (hj : j < l.length), j < k → l[j] ≠ 0) (fun k => l.length - k) 0 rfl ⟨rfl, by omega, fun j _ hj => by omega⟩ ?_
  rintro k h' ⟨rfl, hk, hno⟩
  by_cases hkn : k = l.length
  · have h0 : (0 : UInt8) ∉ l := fun hm => by
      obtain ⟨j, hj, he⟩ := List.mem_iff_getElem.1 hm
      exact hno j hj (by omega) he
    by_cases h1 : 1 ≤ l.length
    · by_cases h2 : l.length ≤ 64
      · simp (disch := omega) [hkn]
        exact ht ⟨h1, h2, h0⟩
      · simp (disch := omega) [hkn]
        exact hf fun n => h2 n.2.1
    · simp (disch := omega) [hkn]
      exact hf fun n => h1 n.1
  · have hkl : k < l.length := by omega
    by_cases hz : l[k] = 0
    · have hz' : ((l[k]).toNat : Int) = 0 := by rw [hz]; rfl
      simp (disch := omega) [hkl, hz', hz]
      exact hf fun n => n.2.2 (hz ▸ List.getElem_mem hkl)
    · have hz' : ¬ ((l[k]).toNat : Int) = 0 := fun e => hz (UInt8.toNat_inj.1 (by simpa using e))
      simp (disch := omega) [hkl, hz', hz]
      refine ⟨k + 1, by simp, ⟨by omega, fun j hj hjk => ?_⟩, by omega⟩
      by_cases e : j = k
      · subst e; exact hz
      · exact hno j hj (by omega)

theorem MaySnap_c {n : List UInt8} {l m s b : Int} (hl : n.length < 9223372036854775808) (h0 : 9 ≤ b) (h1 : b ≤ 16) (ht : ∀ h', Ext h h' → SnOk ⟨n, l, m, s⟩ b → K (.bool true) h') (hf : ∀ h', Ext h h' → ¬ SnOk ⟨n, l, m, s⟩ b → K (.bool false) h') :
    CallsH Try.prog 83 #[.agg #[str n, .int .i64 l, .int .i64 m, .int .i64 s], .int .i64 b] h K ⟨⟩ := by
  have ht := ht _ (push_ext (o := .cells #[str n, .int .i64 l, .int .i64 m, .int .i64 s] 61) (.refl h))
  have hf := hf _ (push_ext (o := .cells #[str n, .int .i64 l, .int .i64 m, .int .i64 s] 61) (.refl h))
  refine n83_calls ?_
  unfold n83
  by_cases hn : NameOk n
  · by_cases hp : PlaceOk l b
    · simp only [SnOk, hn, hp, true_and, and_true] at ht hf
      ((try (simp (disch := omega))); repeat' ((first | (refine Split.mk (fun _ => ?_) (fun _ => ?_)) | (refine Place_c h0 h1 (fun _ => ?_) (fun x => absurd hp x)) | (refine RefNamed_c hl (fun _ => ?_) (fun x => absurd hn x))) <;> ((try (simp (disch := omega))))))
      all_goals first | exact ht (by omega) | exact hf (by omega)
    · simp only [SnOk, hn, hp, true_and, and_false, or_false] at ht hf
      ((try (simp (disch := omega))); repeat' ((first | (refine Split.mk (fun _ => ?_) (fun _ => ?_)) | (refine Place_c h0 h1 (fun x => absurd x hp) (fun _ => ?_)) | (refine RefNamed_c hl (fun _ => ?_) (fun x => absurd hn x))) <;> ((try (simp (disch := omega))))))
      all_goals first | exact ht (by omega) | exact hf (by omega)
  · replace hf := hf fun x => hn x.1
    ((try (simp (disch := omega))); repeat' ((first | (refine Split.mk (fun _ => ?_) (fun _ => ?_)) | (refine Place_c h0 h1 (fun _ => ?_) (fun _ => ?_)) | (refine RefNamed_c hl (fun x => absurd x hn) (fun _ => ?_))) <;> ((try (simp (disch := omega))))))
    all_goals exact hf

/-- A number's bytes. -/
theorem number_c {x n : Int} (hn : n = 1 ∨ n = 4 ∨ n = 8) (x0 : 0 ≤ x) (x1 : x < 9223372036854775808) (hx : x.toNat < 256 ^ n.toNat) (H : ∀ v h', OwnS 1 h' v ((leB n.toNat x.toNat).map byteV) → Ext h h' → (∀ b, blkV v = some b → h.size ≤ b) → K v h') :
    CallsH Try.prog 78 #[.int .i64 x, .int .i64 n] h K ⟨⟩ := by
  obtain ⟨x, rfl⟩ := Int.eq_ofNat_of_zero_le x0
  obtain ⟨n, rfl⟩ := Int.eq_ofNat_of_zero_le (show 0 ≤ n by omega)
  simp only [Int.toNat_natCast] at hx H
  refine n78_calls ?_
  unfold n78
  simp (disch := omega) [zerosB]
  have hO : OwnS 1 (h.push (.cells ((List.replicate n (0 : UInt8)).map byteV).toArray 5)) (.slice (some ⟨h.size, 0, none⟩) n n) ((List.replicate n (0 : UInt8)).map byteV) := OwnS_new rfl (by simp)
  have hz : ((List.replicate n (0 : UInt8)).map byteV).toArray = Array.replicate n (Value.int .u8 0) := by simp [byteV]
  rw [hz] at hO
  have hE : setE n 0 n x = 0 := by
    unfold setE
    rw [if_neg (by omega), if_pos (by omega), Int.toNat_natCast, if_neg (by omega)]
  refine SetO_c hO (by simp) (by simp; omega) (by omega) (fun e => absurd hE e) (fun h2 _ hO2 hM2 _ => ?_)
  have e2 : over (List.replicate n (0 : UInt8)) (0 : Int).toNat (leB (n : Int).toNat x) = leB n x := by
    unfold over
    simp
  rw [e2] at hO2
  exact H _ _ hO2 (hM2.ext_from (push_ext (.refl _)) (fun b hb e => by omega)) (fun b hb => by simp [blkV] at hb; omega)

/-- A text's bytes, its length ahead. -/
theorem RefNamedB_c {l : List UInt8} (hl : l.length < 1000000) (H : ∀ v h', OwnS 1 h' v ((UInt8.ofNat (l.length % 256) :: l).map byteV) → Ext h h' → (∀ b, blkV v = some b → h.size ≤ b) → K v h') :
    CallsH Try.prog 37 #[str l] h K ⟨⟩ := by
  refine n37_calls ?_
  unfold n37
  have hv : Value.int .u8 ((l.length : Int) % 256) = byteV (UInt8.ofNat (l.length % 256)) := by unfold byteV; simp
  simp (disch := omega) [Try.cvw3_5, wrap_u8_eq]
  have hO : OwnS 1 (h.push (.cells (List.toArray [byteV (UInt8.ofNat (l.length % 256))]) 5)) (.slice (some ⟨h.size, 0, none⟩) 1 1) ([UInt8.ofNat (l.length % 256)].map byteV) := OwnS_new rfl rfl
  rw [← hv] at hO
  refine Hp_appStr (e := 5) (by kernel_rfl) (by kernel_rfl) hO (by simp; omega) fun v2 h2 hO2 hM2 hF2 _ => ?_
  exact H _ _ (by simpa using hO2) (hM2.ext_from (push_ext (.refl _)) (fun b hb e => by simp [blkV] at e; omega)) (fun b hb => (hF2 b hb).elim (fun e => by simp [blkV] at e; omega) (fun e => by simp at e; omega))

/-- A snapshot's bytes. -/
def Sn.bytes (x : Sn) : List UInt8 := UInt8.ofNat (x.name.length % 256) :: (x.name ++ leB 8 x.l1.toNat ++ leB 4 x.len.toNat ++ leB 8 x.size.toNat)
theorem cvB_c {l : List UInt8} (hl : l.length < 9223372036854775808) (H : ∀ v' h', OwnS 1 h' v' (l.map byteV) → Ext h h' → (∀ b, blkV v' = some b → h.size ≤ b) → K v' h') : Hp Try.prog false (convert 9 26 (str l)) K h ⟨⟩ :=
  Hp_strBytes (e := 5) (by kernel_rfl) (by kernel_rfl) (by kernel_rfl) hl (fun v' h' a b c _ => H v' h' a b c)

theorem join5_c {hf : Heap} {u1 u2 u3 u4 u5 : Value} {L1 L2 L3 L4 L5 : List UInt8} (hE : Ext h hf) (b1 : Bytes hf u1 L1) (b2 : Bytes hf u2 L2) (b3 : Bytes hf u3 L3) (b4 : Bytes hf u4 L4) (b5 : Bytes hf u5 L5)
    (hl : L1.length + L2.length + L3.length + L4.length + L5.length < 1000000)
    (H : ∀ v h', OwnS 1 h' v ((L1 ++ (L2 ++ (L3 ++ (L4 ++ L5)))).map byteV) → Ext h h' → (∀ b, blkV v = some b → h.size ≤ b) → K v h') :
    CallsH Try.prog 77 #[.slice (some ⟨hf.size, 0, none⟩) 5 5] (hf.push (.cells #[u1, u2, u3, u4, u5] 26)) K ⟨⟩ := by
  have e1 : Ext hf (hf.push (.cells #[u1, u2, u3, u4, u5] 26)) := (by repeat' (first | (with_reducible exact Ext.refl _) | (with_reducible assumption) | (with_reducible refine push_ext ?_) | (with_reducible refine hset_ext ?_ ?_) | (with_reducible refine Ext.trans ?_ (by assumption)) | omega | (simp; done) | (simp; omega) | (refine Ext.size ?_) | (refine Nat.le_succ_of_le (Ext.size ?_))))
  have hF : Fields (hf.push (.cells #[u1, u2, u3, u4, u5] 26)) (.slice (some ⟨hf.size, 0, none⟩) 5 5) [L1, L2, L3, L4, L5] := by
    refine .inr ⟨_, 5, rfl, by simp, fun i hi => ?_⟩
    rw [elt_mk]
    match i, hi with
    | 0, _ => exact ⟨u1, by simp, b1.ext e1⟩
    | 1, _ => exact ⟨u2, by simp, b2.ext e1⟩
    | 2, _ => exact ⟨u3, by simp, b3.ext e1⟩
    | 3, _ => exact ⟨u4, by simp, b4.ext e1⟩
    | 4, _ => exact ⟨u5, by simp, b5.ext e1⟩
  have hz := hE.size
  refine Join_c hF (by simp [total]; omega) (by simp) fun v h' hO e hf => ?_
  exact H v h' (by simpa using hO) (hE.trans (e1.trans e)) (fun b hb => by have := hf b hb; simp at this; omega)

set_option maxHeartbeats 4000000 in
theorem snapBytes_c {n : List UInt8} {l m s b : Int} (hk : SnOk ⟨n, l, m, s⟩ b) (H : ∀ v h', OwnS 1 h' v ((Sn.bytes ⟨n, l, m, s⟩).map byteV) → Ext h h' → (∀ b, blkV v = some b → h.size ≤ b) → K v h') :
    CallsH Try.prog 74 #[.agg #[str n, .int .i64 l, .int .i64 m, .int .i64 s]] h K ⟨⟩ := by
  obtain ⟨⟨n1, n2, -⟩, ⟨s0, s1, s2, m0, m1⟩, hl⟩ := hk
  dsimp only at n1 n2 s0 s1 s2 m0 m1 hl
  have hl0 : 0 ≤ l ∧ l ≤ 268435456 := by rcases hl with hl | ⟨hl1, hl2⟩; omega; have := hl2.1; have := hl2.2.1; omega
  refine n74_calls ?_
  unfold n74
  refine (⟨_, rfl⟩ : ∃ g, g = h.push (.cells #[str n, .int .i64 l, .int .i64 m, .int .i64 s] 61)).elim fun g eg => ?_
  simp (disch := omega) [← eg]
  have hg : Ext h g := by rw [eg]; exact (by repeat' (first | (with_reducible exact Ext.refl _) | (with_reducible assumption) | (with_reducible refine push_ext ?_) | (with_reducible refine hset_ext ?_ ?_) | (with_reducible refine Ext.trans ?_ (by assumption)) | omega | (simp; done) | (simp; omega) | (refine Ext.size ?_) | (refine Nat.le_succ_of_le (Ext.size ?_))))
  have c0 : hcell g ⟨h.size, 0, none⟩ = some (str n) := by simp [eg]
  have c1 : hcell g ⟨h.size, 1, none⟩ = some (.int .i64 l) := by simp [eg]
  have c2 : hcell g ⟨h.size, 2, none⟩ = some (.int .i64 m) := by simp [eg]
  have c3 : hcell g ⟨h.size, 3, none⟩ = some (.int .i64 s) := by simp [eg]
  have zg : g.size = h.size + 1 := by simp [eg]
  clear eg
  have hx6 : (n.length : Int).toNat < 256 ^ (1 : Int).toNat := by rw [show (256 : Nat) ^ (1 : Int).toNat = 256 by decide]; omega
  have hx12 : l.toNat < 256 ^ (8 : Int).toNat := by rw [show (256 : Nat) ^ (8 : Int).toNat = 18446744073709551616 by decide]; omega
  have hx15 : m.toNat < 256 ^ (4 : Int).toNat := by rw [show (256 : Nat) ^ (4 : Int).toNat = 4294967296 by decide]; omega
  have hx18 : s.toNat < 256 ^ (8 : Int).toNat := by rw [show (256 : Nat) ^ (8 : Int).toNat = 18446744073709551616 by decide]; omega
  refine JoinN.mk ?_
  have eN : Ext g g := .refl _
  simp (disch := omega) [c0, c1, c2, c3]
  repeat' (first | (refine And.intro ?_ ?_) | (refine number_c (x := (n.length : Int)) (n := 1) (by omega) (by omega) (by omega) hx6 (fun v6 h6 hO6 e6 _ => ?_); (try replace hO6 := hO6.ext e6); (try replace hO9 := hO9.ext e6); (try replace hO12 := hO12.ext e6); (try replace hO15 := hO15.ext e6); (try replace hO18 := hO18.ext e6); (refine hO6.bytes.form.elim fun o6 hx => hx.elim fun q6 hv6 => ?_); (replace eN := eN.trans e6); (have cN := ext_cell eN rfl); (try simp (disch := omega) [cN, c0, c1, c2, c3])) | (refine number_c (x := l) (n := 8) (by omega) (by omega) (by omega) hx12 (fun v12 h12 hO12 e12 _ => ?_); (try replace hO6 := hO6.ext e12); (try replace hO9 := hO9.ext e12); (try replace hO12 := hO12.ext e12); (try replace hO15 := hO15.ext e12); (try replace hO18 := hO18.ext e12); (refine hO12.bytes.form.elim fun o12 hx => hx.elim fun q12 hv12 => ?_); (replace eN := eN.trans e12); (have cN := ext_cell eN rfl); (try simp (disch := omega) [cN, c0, c1, c2, c3])) | (refine number_c (x := m) (n := 4) (by omega) (by omega) (by omega) hx15 (fun v15 h15 hO15 e15 _ => ?_); (try replace hO6 := hO6.ext e15); (try replace hO9 := hO9.ext e15); (try replace hO12 := hO12.ext e15); (try replace hO15 := hO15.ext e15); (try replace hO18 := hO18.ext e15); (refine hO15.bytes.form.elim fun o15 hx => hx.elim fun q15 hv15 => ?_); (replace eN := eN.trans e15); (have cN := ext_cell eN rfl); (try simp (disch := omega) [cN, c0, c1, c2, c3])) | (refine number_c (x := s) (n := 8) (by omega) (by omega) (by omega) hx18 (fun v18 h18 hO18 e18 _ => ?_); (try replace hO6 := hO6.ext e18); (try replace hO9 := hO9.ext e18); (try replace hO12 := hO12.ext e18); (try replace hO15 := hO15.ext e18); (try replace hO18 := hO18.ext e18); (refine hO18.bytes.form.elim fun o18 hx => hx.elim fun q18 hv18 => ?_); (replace eN := eN.trans e18); (have cN := ext_cell eN rfl); (try simp (disch := omega) [cN, c0, c1, c2, c3])) | (refine cvB_c (by omega) (fun v9 h9 hO9 e9 _ => ?_); (try replace hO6 := hO6.ext e9); (try replace hO9 := hO9.ext e9); (try replace hO12 := hO12.ext e9); (try replace hO15 := hO15.ext e9); (try replace hO18 := hO18.ext e9); (refine hO9.bytes.form.elim fun o9 hx => hx.elim fun q9 hv9 => ?_); (replace eN := eN.trans e9); (have cN := ext_cell eN rfl); (try simp (disch := omega) [cN, c0, c1, c2, c3])))
  all_goals simp (disch := omega) [hv6, hv9, hv12, hv15, hv18]
  all_goals
    rw [hv6] at hO6
    rw [hv9] at hO9
    rw [hv12] at hO12
    rw [hv15] at hO15
    rw [hv18] at hO18
    refine join5_c (hg.trans eN) hO6.bytes hO9.bytes hO12.bytes hO15.bytes hO18.bytes (by simp; omega) fun v h' hO e hF => ?_
    refine H v h' ?_ e hF
    have : Sn.bytes ⟨n, l, m, s⟩ = leB (1 : Int).toNat (n.length : Int).toNat ++ (n ++ (leB (8 : Int).toNat l.toNat ++ (leB (4 : Int).toNat m.toNat ++ leB (8 : Int).toNat s.toNat))) := by
      unfold Sn.bytes
      simp [leB]
    rw [this]
    exact hO
end Go.Proofs.Ytgnmjcljljfldaa
