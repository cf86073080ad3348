/- Tables of entries: the first word that is none; all entries told one by one. -/
import Derived.Test.YtmppolccfjfoaaaEntry6
import Derived.Test.YtmppolccfjfoaaaVcRange
set_option linter.unusedSimpArgs false
set_option linter.unusedVariables false
namespace Go.Proofs.Ytmppolccfjfoaaa
open Go.Vc
variable {K : Value → Heap → Prop} {h : Heap}

/-- The first index from i on, of n more, of which p holds; else the end. -/
def firstI (p : Nat → Bool) : Nat → Nat → Nat
  | i, 0 => i
  | i, n + 1 => if p i then i else firstI p (i + 1) n

theorem firstI_le (p : Nat → Bool) : ∀ (n i : Nat), i ≤ firstI p i n ∧ firstI p i n ≤ i + n
  | 0, i => by simp [firstI]
  | n + 1, i => by
    unfold firstI
    split
    · omega
    · have := firstI_le p n (i + 1); omega
theorem firstI_no (p : Nat → Bool) : ∀ (n i j : Nat), i ≤ j → j < firstI p i n → p j = false
  | 0, i, j, h1, h2 => by simp [firstI] at h2; omega
  | n + 1, i, j, h1, h2 => by
    unfold firstI at h2
    split at h2
    · omega
    · by_cases e : i = j
      · subst e; simpa using ‹¬ p i = true›
      · exact firstI_no p n (i + 1) j (by omega) h2
theorem firstI_yes (p : Nat → Bool) : ∀ (n i : Nat), firstI p i n < i + n → p (firstI p i n) = true
  | 0, i, h => by simp [firstI] at h
  | n + 1, i, h => by
    unfold firstI at h ⊢
    split
    · assumption
    · rename_i hp
      rw [if_neg hp] at h
      exact firstI_yes p n (i + 1) (by omega)
theorem firstI_is (p : Nat → Bool) : ∀ (n i k : Nat), (∀ j, i ≤ j → j < k → p j = false) → i ≤ k → k < i + n → p k = true → firstI p i n = k
  | 0, i, k, _, h1, h2, _ => by omega
  | n + 1, i, k, hn, h1, h2, hk => by
    unfold firstI
    by_cases e : i = k
    · subst e; rw [if_pos hk]
    · rw [if_neg (by simp [hn i (Nat.le_refl _) (by omega)])]
      exact firstI_is p n (i + 1) k (fun j h3 h4 => hn j (by omega) h4) (by omega) (by omega) hk
theorem firstI_end (p : Nat → Bool) : ∀ (n i : Nat), (∀ j, i ≤ j → j < i + n → p j = false) → firstI p i n = i + n
  | 0, i, _ => rfl
  | n + 1, i, hn => by
    unfold firstI
    rw [if_neg (by simp [hn i (Nat.le_refl _) (by omega)]), firstI_end p n (i + 1) (fun j h3 h4 => hn j (by omega) (by omega))]
    omega

/-- The first word that is none, and the error. -/
noncomputable def bad (l : List UInt8) (b : Int) (i : Nat) : Bool := !decide ((getE l i b).2 = 0)
noncomputable def firstE (l : List UInt8) (b : Int) : Nat := firstI (bad l b) 0 (l.length / 8)
noncomputable def firstR (l : List UInt8) (b : Int) : Nat × Int :=
  if ¬ (9 ≤ b ∧ b ≤ 16) then (0, 2) else (firstE l b, if firstE l b < l.length / 8 then (getE l (firstE l b) b).2 else 0)

theorem EFirst_c {v : Value} {l : List UInt8} {b : Int} (hB : Bytes h v l) (hl : l.length < 4611686018427387904) (H : ∀ h', Ext h h' → K (.tuple #[.int .i64 (firstR l b).1, .int .i64 (firstR l b).2]) h') :
    CallsH Try.prog 38 #[v, .int .i64 b] h K ⟨⟩ := by
  obtain ⟨o, c, rfl⟩ := hB.form
  unfold firstR at H
  by_cases hb : 9 ≤ b ∧ b ≤ 16
  · rw [if_neg (by simpa using hb)] at H
    refine n38_calls ?_
    unfold n38
    simp (disch := omega)
    refine loopA1 (fun k : Nat => .int .i64 k) (fun k h' => Ext h h' ∧ k ≤ l.length / 8 ∧ ∀ j, j < k → bad l b j = false) (fun k => l.length / 8 - k) 0 rfl ⟨.refl _, by omega, fun j hj => by omega⟩ ?_
    rintro k h1 ⟨hE, hk, hno⟩
    by_cases hkn : k = l.length / 8
    · have hf : firstE l b = l.length / 8 := by
        have := firstI_end (bad l b) (l.length / 8) 0 (fun j _ h2 => hno j (by omega))
        unfold firstE; omega
      rw [hf, if_neg (by omega)] at H
      simp (disch := omega) [hkn]
      have := H h1 hE
      simpa using this
    · refine (⟨_, _, _, _, rfl⟩ : ∃ k' p n e, getE l k b = ((k', p, n), e)).elim fun k' hx => hx.elim fun p hx => hx.elim fun n hx => hx.elim fun e hG => ?_
      simp (disch := omega)
      refine EGet_c (hB.ext hE) hl hG (fun h2 e2 => ?_)
      by_cases he : e = 0
      · have hbad : bad l b k = false := by unfold bad; rw [hG]; simp [he]
        simp (disch := omega) [he]
        exact ⟨k + 1, by simp, ⟨(by repeat' (first | (with_reducible exact Ext.refl _) | (with_reducible assumption) | (with_reducible refine push_ext ?_) | (with_reducible refine hset_ext ?_ ?_) | (with_reducible refine Ext.trans ?_ (by assumption)) | omega | (simp; done) | (simp; omega) | (refine Ext.size ?_) | (refine Nat.le_succ_of_le (Ext.size ?_)))), by omega, fun j hj => if hjk : j = k then hjk ▸ hbad else hno j (by omega)⟩, by omega⟩
      · have hbad : bad l b k = true := by unfold bad; rw [hG]; simp [he]
        have hf : firstE l b = k := firstI_is (bad l b) (l.length / 8) 0 k (fun j _ h2 => hno j h2) (by omega) (by omega) hbad
        rw [hf, if_pos (by omega), hG] at H
        dsimp only at H
        simp (disch := omega) [he]
        exact H _ (by repeat' (first | (with_reducible exact Ext.refl _) | (with_reducible assumption) | (with_reducible refine push_ext ?_) | (with_reducible refine hset_ext ?_ ?_) | (with_reducible refine Ext.trans ?_ (by assumption)) | omega | (simp; done) | (simp; omega) | (refine Ext.size ?_) | (refine Nat.le_succ_of_le (Ext.size ?_))))
  · rw [if_pos hb] at H
    refine n38_calls ?_
    unfold n38
    by_cases h0 : b < 9
    · simp (disch := omega) [h0]
      exact H _ (.refl _)
    · simp (disch := omega) [h0]
      exact H _ (.refl _)

theorem ERefFirst_c {v : Value} {l : List UInt8} {b : Int} (hB : Bytes h v l) (hl : l.length < 4611686018427387904) (H : ∀ h', Ext h h' → K (.tuple #[.int .i64 (firstR l b).1, .int .i64 (firstR l b).2]) h') :
    CallsH Try.prog 39 #[v, .int .i64 b] h K ⟨⟩ := by
  obtain ⟨o, c, rfl⟩ := hB.form
  unfold firstR at H
  by_cases hb : 9 ≤ b ∧ b ≤ 16
  · rw [if_neg (by simpa using hb)] at H
    refine n39_calls ?_
    unfold n39
    refine Bits_c (fun _ _ => ?_) (fun n => absurd hb n)
    simp (disch := omega)
    refine loopA1 (fun k : Nat => .int .i64 k) (fun k h' => Ext h h' ∧ k ≤ l.length / 8 ∧ ∀ j, j < k → bad l b j = false) (fun k => l.length / 8 - k) 0 rfl ⟨.refl _, by omega, fun j hj => by omega⟩ ?_
    rintro k h1 ⟨hE, hk, hno⟩
    by_cases hkn : k = l.length / 8
    · have hf : firstE l b = l.length / 8 := by
        have := firstI_end (bad l b) (l.length / 8) 0 (fun j _ h2 => hno j (by omega))
        unfold firstE; omega
      rw [hf, if_neg (by omega)] at H
      simp (disch := omega) [hkn]
      have := H h1 hE
      simpa using this
    · refine (⟨_, _, _, _, rfl⟩ : ∃ k' p n e, getE l k b = ((k', p, n), e)).elim fun k' hx => hx.elim fun p hx => hx.elim fun n hx => hx.elim fun e hG => ?_
      simp (disch := omega)
      refine ERefGet_c (hB.ext hE) hl hG (fun h2 e2 => ?_)
      by_cases he : e = 0
      · have hbad : bad l b k = false := by unfold bad; rw [hG]; simp [he]
        simp (disch := omega) [he]
        exact ⟨k + 1, by simp, ⟨(by repeat' (first | (with_reducible exact Ext.refl _) | (with_reducible assumption) | (with_reducible refine push_ext ?_) | (with_reducible refine hset_ext ?_ ?_) | (with_reducible refine Ext.trans ?_ (by assumption)) | omega | (simp; done) | (simp; omega) | (refine Ext.size ?_) | (refine Nat.le_succ_of_le (Ext.size ?_)))), by omega, fun j hj => if hjk : j = k then hjk ▸ hbad else hno j (by omega)⟩, by omega⟩
      · have hbad : bad l b k = true := by unfold bad; rw [hG]; simp [he]
        have hf : firstE l b = k := firstI_is (bad l b) (l.length / 8) 0 k (fun j _ h2 => hno j h2) (by omega) (by omega) hbad
        rw [hf, if_pos (by omega), hG] at H
        dsimp only at H
        simp (disch := omega) [he]
        exact H _ (by repeat' (first | (with_reducible exact Ext.refl _) | (with_reducible assumption) | (with_reducible refine push_ext ?_) | (with_reducible refine hset_ext ?_ ?_) | (with_reducible refine Ext.trans ?_ (by assumption)) | omega | (simp; done) | (simp; omega) | (refine Ext.size ?_) | (refine Nat.le_succ_of_le (Ext.size ?_))))
  · rw [if_pos hb] at H
    refine n39_calls ?_
    unfold n39
    refine Bits_c (fun b0 b1 => absurd ⟨b0, b1⟩ hb) (fun n => ?_)
    simp (disch := omega)
    exact H _ (.refl _)

theorem bad_bits {l : List UInt8} {b : Int} {j : Nat} (h : bad l b j = false) : 9 ≤ b ∧ b ≤ 16 := by
  apply Classical.byContradiction
  intro n
  unfold bad getE at h
  rw [if_pos n] at h
  simp at h
theorem first_of {l : List UInt8} {b : Int} {i : Nat} (hno : ∀ j, j < i → bad l b j = false) (hend : i = l.length / 8 ∨ i < l.length / 8 ∧ ¬ (getE l i b).2 = 0) : (firstR l b).1 = i := by
  unfold firstR
  split
  · rename_i n
    cases i with
    | zero => rfl
    | succ i => exact absurd (bad_bits (hno i (by omega))) n
  · show firstE l b = i
    rcases hend with e | ⟨h1, h2⟩
    · have := firstI_end (bad l b) (l.length / 8) 0 (fun j _ h2 => hno j (by omega))
      unfold firstE; omega
    · exact firstI_is (bad l b) (l.length / 8) 0 i (fun j _ h3 => hno j h3) (by omega) (by omega) (by unfold bad; simp [h2])
theorem first_le (l : List UInt8) (b : Int) : (firstR l b).1 ≤ l.length / 8 := by
  unfold firstR
  split
  · simp
  · have := (firstI_le (bad l b) (l.length / 8) 0).2
    show firstE l b ≤ _
    unfold firstE; omega
theorem lt_first {l : List UInt8} {b : Int} {i : Nat} (hno : ∀ j, j ≤ i → bad l b j = false) (hi : i < l.length / 8) : i < (firstR l b).1 := by
  unfold firstR
  rw [if_neg (by simpa using bad_bits (hno i (Nat.le_refl _)))]
  show i < firstE l b
  apply Classical.byContradiction
  intro hc
  have h1 : firstE l b < l.length / 8 := by omega
  have h2 := firstI_yes (bad l b) (l.length / 8) 0 (by unfold firstE at h1; omega)
  have h3 := hno (firstE l b) (by omega)
  unfold firstE at h3
  rw [h2] at h3
  cases h3

/-- A slice's clone. -/
theorem Clone_c {v : Value} {l : List UInt8} (hB : Bytes h v l) (hl : l.length < 70368744177664) (H : ∀ v' h', OwnS 1 h' v' (l.map byteV) → Ext h h' → (∀ b, blkV v' = some b → h.size ≤ b) → K v' h') :
    CallsH Try.prog 72 #[v] h K ⟨⟩ := by
  obtain ⟨o, c, rfl⟩ := hB.form
  refine n72_calls ?_
  unfold n72
  cases o with
  | none =>
    have hl0 : l = [] := by
      rcases hB with ⟨-, e⟩ | ⟨a, c, e, -⟩
      · exact e
      · cases e
    subst hl0
    simp (disch := omega)
    exact H _ _ .nil (.refl _) (fun b hb => by cases hb)
  | some a =>
    simp (disch := omega)
    have hs0 : OwnS 1 (h.push (.cells #[] 5)) (.slice (some ⟨h.size, 0, none⟩) 0 0) (([] : List UInt8).map byteV) := OwnS_new (vs := []) rfl rfl
    refine Hp_appB (e := 5) (l := []) (by kernel_rfl) (by kernel_rfl) hs0 (hB.ext (push_ext (.refl h))) (by simp; omega) fun v2 h2 hO2 hM2 hF2 _ => ?_
    refine H v2 h2 (by simpa using hO2) (hM2.ext_from (push_ext (.refl h)) (fun b hb hb' => by cases hb'; exact absurd hb (Nat.lt_irrefl _))) (fun b hb => (hF2 b hb).elim (fun e => by cases e; exact Nat.le_refl _) (fun e => by simp at e; omega))

/-- The function that tells a table's entries one by one: J: what holds ahead of index i; E: what holds when it was stopped. -/
theorem EAll1_c {t2 b3 : Addr} {y : Value} {l : List UInt8} {b : Int} (hl : l.length < 4611686018427387904) (J : Nat → Heap → Prop) (E : Heap → Prop)
    (hread : ∀ i h, J i h → ∃ o c, hcell h t2 = some (.slice o l.length c) ∧ Bytes h (.slice o l.length c) l ∧ hcell h b3 = some (.int .i64 b))
    (hext : ∀ i h h', J i h → Ext h h' → J i h')
    (hskip : ∀ i h, J i h → i < l.length / 8 → getE l i b = ((0, 0, 0), 0) → J (i + 1) h)
    (hround : ∀ i h k p n, J i h → i < l.length / 8 → getE l i b = ((k, p, n), 0) → ¬ (k = 0 ∧ p = 0 ∧ n = 0) → ∀ K : Value → Heap → Prop, (∀ h', J (i + 1) h' → K (.bool true) h') → (∀ h', E h' → K (.bool false) h') →
      InvokeH Try.prog y #[.int .i64 i, .agg #[.int .i64 k, .int .i64 p, .int .i64 n]] h K ⟨⟩)
    (h0 : J 0 h)
    (Hend : ∀ i h', J i h' → (i = l.length / 8 ∨ i < l.length / 8 ∧ ¬ (getE l i b).2 = 0) → K (.tuple #[]) h')
    (Hstop : ∀ h', E h' → K (.tuple #[]) h') : CallsH Try.prog 73 #[y, .pointer (some t2), .pointer (some b3)] h K ⟨⟩ := by
  obtain ⟨o, c, ht, hB, hb⟩ := hread 0 h h0
  refine n73_calls ?_
  unfold n73
  simp (disch := omega) [ht]
  refine loopA1 (fun k : Nat => .int .i64 k) (fun k h' => J k h' ∧ k ≤ l.length / 8) (fun k => l.length / 8 - k) 0 rfl ⟨h0, by omega⟩ ?_
  rintro i h1 ⟨hJ, hk⟩
  by_cases hkn : i = l.length / 8
  · simp (disch := omega) [hkn]
    exact Hend i h1 hJ (.inl hkn)
  · refine (hread i h1 hJ).elim fun o1 hx => hx.elim fun c1 hx => ?_
    have ht1 := hx.1
    have hB1 := hx.2.1
    have hb1 := hx.2.2
    refine (⟨_, _, _, _, rfl⟩ : ∃ k' p n e, getE l i b = ((k', p, n), e)).elim fun k' hx => hx.elim fun p hx => hx.elim fun n hx => hx.elim fun e hG => ?_
    simp (disch := omega) [ht1, hb1]
    refine EGet_c hB1 hl hG (fun h2 e2 => ?_)
    by_cases he : e = 0
    · rw [he] at hG
      by_cases hz : k' = 0 ∧ p = 0 ∧ n = 0
      · obtain ⟨hz1, hz2, hz3⟩ := hz
        have hG0 : getE l i b = ((0, 0, 0), 0) := by rw [hG, hz1, hz2, hz3]
        simp (disch := omega) [he, hz1, hz2, hz3]
        exact ⟨i + 1, by simp, ⟨hext _ _ _ (hskip i h1 hJ (by omega) hG0) (by repeat' (first | (with_reducible exact Ext.refl _) | (with_reducible assumption) | (with_reducible refine push_ext ?_) | (with_reducible refine hset_ext ?_ ?_) | (with_reducible refine Ext.trans ?_ (by assumption)) | omega | (simp; done) | (simp; omega) | (refine Ext.size ?_) | (refine Nat.le_succ_of_le (Ext.size ?_)))), by omega⟩, by omega⟩
      · simp (disch := omega) [he, hz]
        refine hround i _ k' p n (hext _ _ _ hJ (by repeat' (first | (with_reducible exact Ext.refl _) | (with_reducible assumption) | (with_reducible refine push_ext ?_) | (with_reducible refine hset_ext ?_ ?_) | (with_reducible refine Ext.trans ?_ (by assumption)) | omega | (simp; done) | (simp; omega) | (refine Ext.size ?_) | (refine Nat.le_succ_of_le (Ext.size ?_))))) (by omega) hG hz _ (fun h' hJ' => ?_) (fun h' hE' => ?_)
        · simp (disch := omega)
          exact ⟨i + 1, by simp, ⟨hJ', by omega⟩, by omega⟩
        · simp (disch := omega)
          exact Hstop h' hE'
    · simp (disch := omega) [he]
      exact Hend i _ (hext _ _ _ hJ (by repeat' (first | (with_reducible exact Ext.refl _) | (with_reducible assumption) | (with_reducible refine push_ext ?_) | (with_reducible refine hset_ext ?_ ?_) | (with_reducible refine Ext.trans ?_ (by assumption)) | omega | (simp; done) | (simp; omega) | (refine Ext.size ?_) | (refine Nat.le_succ_of_le (Ext.size ?_))))) (.inr ⟨by omega, by rw [hG]; exact he⟩)

theorem EAll_c {v : Value} {l : List UInt8} {b : Int} (hB : Bytes h v l) (hl : l.length < 70368744177664)
    (H : ∀ h' o c, Ext h h' → h.size + 2 ≤ h'.size → hcell h' ⟨h.size, 0, none⟩ = some (.slice o l.length c) → Bytes h' (.slice o l.length c) l → hcell h' ⟨h.size + 1, 0, none⟩ = some (.int .i64 b) → (∀ a, o = some a → h.size ≤ a.block) →
      K (.func (.func 73) #[] #[.pointer (some ⟨h.size, 0, none⟩), .pointer (some ⟨h.size + 1, 0, none⟩)]) h') : CallsH Try.prog 40 #[v, .int .i64 b] h K ⟨⟩ := by
  obtain ⟨o, c, rfl⟩ := hB.form
  refine n40_calls ?_
  unfold n40
  simp (disch := omega)
  refine Clone_c (hB.ext (by repeat' (first | (with_reducible exact Ext.refl _) | (with_reducible assumption) | (with_reducible refine push_ext ?_) | (with_reducible refine hset_ext ?_ ?_) | (with_reducible refine Ext.trans ?_ (by assumption)) | omega | (simp; done) | (simp; omega) | (refine Ext.size ?_) | (refine Nat.le_succ_of_le (Ext.size ?_))))) hl fun v2 h2 hO2 e2 hF2 => ?_
  have hz2 := e2.size
  simp at hz2 hF2
  have ce2 := ext_cell e2 rfl; have fe2 := ext_frz e2 rfl; have se2 := (e2).size; (try simp only [Array.size_push, hset_size] at ce2); (try simp only [Array.size_push, hset_size] at fe2); (try simp only [Array.size_push, hset_size] at se2)
  have hb2 := hO2.bytes
  refine hb2.form.elim fun o2 hx => hx.elim fun c2 hv2 => ?_
  have hB2 : Bytes h2 (.slice o2 l.length c2) l := by rw [← hv2]; exact hb2
  simp (disch := omega) [ce2, fe2, hv2]
  have hlt : ∀ b, blkV (.slice o2 l.length c2) = some b → h.size + 2 ≤ b := fun b hb => by rw [← hv2] at hb; exact hF2 b hb
  refine H _ o2 c2 (by repeat' (first | (with_reducible exact Ext.refl _) | (with_reducible assumption) | (with_reducible refine push_ext ?_) | (with_reducible refine hset_ext ?_ ?_) | (with_reducible refine Ext.trans ?_ (by assumption)) | omega | (simp; done) | (simp; omega) | (refine Ext.size ?_) | (refine Nat.le_succ_of_le (Ext.size ?_)))) (by simp; omega) (by simp (disch := omega) [ce2]) (hB2.mod (Mod.set _ _ _) (fun b hb e => ?_)) (by simp (disch := omega) [ce2]) (fun a ha => ?_)
  · have := hlt b hb
    simp at e
    omega
  · have := hlt a.block (by rw [ha]; rfl)
    omega
end Go.Proofs.Ytmppolccfjfoaaa
