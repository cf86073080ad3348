/- Counts: all counts, one by one; another width. -/
import Derived.Test.YtmppolccfjfoaaaCounts5
set_option linter.unusedSimpArgs false
set_option linter.unusedVariables false
namespace Go.Proofs.Ytmppolccfjfoaaa
open Go.Vc
variable {K : Value → Heap → Prop} {h : Heap}

theorem InvokeH_fn2 {P : Go.Program} {g : Go.FuncId} {a b c1 c2 : Go.Value} (hc : callOk P g = true) (H : CallsH P g #[a, b, c1, c2] h K ⟨⟩) : InvokeH P (.func (.func g) #[] #[c1, c2]) #[a, b] h K ⟨⟩ := InvokeH_func hc (by simpa using H)

/-- The function that tells the counts one by one: J: what holds ahead of index i; E: what holds when it was stopped. -/
theorem CAll1_c {t2 b3 : Addr} {y : Value} {l : List UInt8} {o : Int} (hl : l.length < 1000000000) (J : Nat → Heap → Prop) (E : Heap → Prop)
    (hread : ∀ i h, J i h → ∃ a c, hcell h t2 = some (.slice a l.length c) ∧ Bytes h (.slice a l.length c) l ∧ hcell h b3 = some (.int .i64 o))
    (hext : ∀ i h h', J i h → Ext h h' → J i h')
    (hskip : ∀ i h, J i h → wd o ≠ 0 → i < many l.length o → cnt l (wd o) i = 0 → J (i + 1) h)
    (hround : ∀ i h, J i h → wd o ≠ 0 → i < many l.length o → cnt l (wd o) i ≠ 0 → ∀ K : Value → Heap → Prop, (∀ h', J (i + 1) h' → K (.bool true) h') → (∀ h', E h' → K (.bool false) h') →
      InvokeH Try.prog y #[.int .i64 i, .int .u64 (cnt l (wd o) i)] h K ⟨⟩)
    (h0 : J 0 h)
    (Hend : ∀ h', J (many l.length o) h' → K (.tuple #[]) h')
    (Hstop : ∀ h', E h' → K (.tuple #[]) h') : CallsH Try.prog 79 #[y, .pointer (some t2), .pointer (some b3)] h K ⟨⟩ := by
  obtain ⟨a, c, ht, hB, hb⟩ := hread 0 h h0
  have hmb := many_bd l.length o
  refine n79_calls ?_
  unfold n79
  simp (disch := omega) [ht, hb]
  refine Many_c hB hl fun h1 e1 => ?_
  simp (disch := omega) only [Hp_extract0, Hp_extract1]
  refine loopA1 (fun k : Nat => .int .i64 k) (fun k h' => J k h' ∧ k ≤ many l.length o) (fun k => many l.length o - k) 0 rfl ⟨hext _ _ _ h0 e1, by omega⟩ ?_
  rintro i h1 ⟨hJ, hk⟩
  by_cases hkn : i = many l.length o
  · simp (disch := omega) [hkn]
    exact Hend h1 (hkn ▸ hJ)
  · have hw : wd o ≠ 0 := by intro e; unfold many at hk hkn; rw [e] at hk hkn; simp at hk hkn; omega
    refine (hread i h1 hJ).elim fun o1 hx => hx.elim fun c1 hx => ?_
    have ht1 := hx.1
    have hB1 := hx.2.1
    have hb1 := hx.2.2
    simp (disch := omega) [ht1, hb1]
    refine Width_c fun h2 e2 => ?_
    have ht2 := hcell_ext e2 ht1
    simp (disch := omega) [ht2]
    refine cget_c (hB1.ext e2) hl (wok_wd hw) (many_le (by omega)) ?_
    by_cases hc : cnt l (wd o) i = 0
    · simp (disch := omega) [hc]
      exact ⟨i + 1, by simp, ⟨hext _ _ _ (hskip i h1 hJ hw (by omega) hc) e2, by omega⟩, by omega⟩
    · have hc' : ¬ ((cnt l (wd o) i : Nat) : Int) = 0 := by omega
      simp (disch := omega) [hc']
      refine hround i _ (hext _ _ _ hJ e2) hw (by omega) hc _ (fun h' hJ' => ?_) (fun h' hE' => ?_)
      · simp (disch := omega)
        exact ⟨i + 1, by simp, ⟨hJ', by omega⟩, by omega⟩
      · simp (disch := omega)
        exact Hstop h' hE'

theorem CAll_c {v : Value} {l : List UInt8} {b : Int} (hB : Bytes h v l) (hl : l.length < 70368744177664)
    (H : ∀ h' o c, Ext h h' → h.size + 2 ≤ h'.size → hcell h' ⟨h.size, 0, none⟩ = some (.slice o l.length c) → Bytes h' (.slice o l.length c) l → hcell h' ⟨h.size + 1, 0, none⟩ = some (.int .i64 b) → (∀ a, o = some a → h.size ≤ a.block) →
      K (.func (.func 79) #[] #[.pointer (some ⟨h.size, 0, none⟩), .pointer (some ⟨h.size + 1, 0, none⟩)]) h') : CallsH Try.prog 54 #[v, .int .i64 b] h K ⟨⟩ := by
  obtain ⟨o, c, rfl⟩ := hB.form
  refine n54_calls ?_
  unfold n54
  simp (disch := omega)
  refine Clone_c (hB.ext (by repeat' (first | (with_reducible exact Ext.refl _) | (with_reducible assumption) | (with_reducible refine push_ext ?_) | (with_reducible refine hset_ext ?_ ?_) | (with_reducible refine Ext.trans ?_ (by assumption)) | omega | (simp; done) | (simp; omega) | (refine Ext.size ?_) | (refine Nat.le_succ_of_le (Ext.size ?_))))) hl fun v2 h2 hO2 e2 hF2 => ?_
  have hz2 := e2.size
  simp at hz2 hF2
  have ce2 := ext_cell e2 rfl; have fe2 := ext_frz e2 rfl; have se2 := (e2).size; (try simp only [Array.size_push, hset_size] at ce2); (try simp only [Array.size_push, hset_size] at fe2); (try simp only [Array.size_push, hset_size] at se2)
  have hb2 := hO2.bytes
  refine hb2.form.elim fun o2 hx => hx.elim fun c2 hv2 => ?_
  have hB2 : Bytes h2 (.slice o2 l.length c2) l := by rw [← hv2]; exact hb2
  simp (disch := omega) [ce2, fe2, hv2]
  have hlt : ∀ b, blkV (.slice o2 l.length c2) = some b → h.size + 2 ≤ b := fun b hb => by rw [← hv2] at hb; exact hF2 b hb
  refine H _ o2 c2 (by repeat' (first | (with_reducible exact Ext.refl _) | (with_reducible assumption) | (with_reducible refine push_ext ?_) | (with_reducible refine hset_ext ?_ ?_) | (with_reducible refine Ext.trans ?_ (by assumption)) | omega | (simp; done) | (simp; omega) | (refine Ext.size ?_) | (refine Nat.le_succ_of_le (Ext.size ?_)))) (by simp; omega) (by simp (disch := omega) [ce2]) (hB2.mod (Mod.set _ _ _) (fun b hb e => ?_)) (by simp (disch := omega) [ce2]) (fun a ha => ?_)
  · have := hlt b hb
    simp at e
    omega
  · have := hlt a.block (by rw [ha]; rfl)
    omega

/-- The counts below k in another width, in N bytes. -/
def wL (l : List UInt8) (w wt N : Nat) : Nat → List UInt8
  | 0 => List.replicate N 0
  | k + 1 => if cnt l w k = 0 then wL l w wt N k else setC (wL l w wt N k) wt k (cnt l w k)
@[simp] theorem wL_len (l : List UInt8) (w wt N : Nat) : ∀ k, (wL l w wt N k).length = N
  | 0 => by simp [wL]
  | k + 1 => by unfold wL; split <;> simp [wL_len l w wt N k]
theorem leN_zeros : ∀ n, leN (List.replicate n 0) = 0
  | 0 => rfl
  | n + 1 => by rw [List.replicate_succ, leN, leN_zeros n]; rfl
theorem wL_cnt {l : List UInt8} {w wt N : Nat} : ∀ (k i : Nat), k * wt ≤ 8 * N → (∀ j, j < k → cnt l w j < 2 ^ wt) → cnt (wL l w wt N k) wt i = if i < k then cnt l w i else 0
  | 0, i, _, _ => by simp [wL, cnt, leN_zeros]
  | k + 1, i, hk, hb => by
    rw [Nat.add_mul] at hk
    have ih := wL_cnt (l := l) (w := w) (N := N) k i (by omega) (fun j hj => hb j (by omega))
    unfold wL
    split
    · rename_i h0
      rw [ih]
      by_cases e : i = k
      · subst e; rw [if_neg (by omega), if_pos (by omega), h0]
      · by_cases e2 : i < k
        · rw [if_pos e2, if_pos (by omega)]
        · rw [if_neg e2, if_neg (by omega)]
    · rw [cnt_setC (by simp; omega)]
      by_cases e : i = k
      · subst e; rw [if_pos rfl, if_pos (by omega), Nat.mod_eq_of_lt (hb i (by omega))]
      · rw [if_neg e, ih]
        by_cases e2 : i < k
        · rw [if_pos e2, if_pos (by omega)]
        · rw [if_neg e2, if_neg (by omega)]

/-- The bytes of so many counts of another width. -/
def wN (len : Nat) (o t : Int) : Nat := (many len o * wd t + 7) / 8
def widenR (l : List UInt8) (o t : Int) : List UInt8 × Int :=
  if wd o = 0 ∨ wd t = 0 then ([], 2) else if ∀ j, j < many l.length o → cnt l (wd o) j < 2 ^ wd t then (wL l (wd o) (wd t) (wN l.length o t) (many l.length o), 0) else ([], 3)
theorem widenR_bad {l : List UInt8} {o t : Int} (hw : wd o = 0 ∨ wd t = 0) : widenR l o t = ([], 2) := by unfold widenR; rw [if_pos hw]
theorem widenR_ok {l : List UInt8} {o t : Int} (hw : ¬ (wd o = 0 ∨ wd t = 0)) (hb : ∀ j, j < many l.length o → cnt l (wd o) j < 2 ^ wd t) : widenR l o t = (wL l (wd o) (wd t) (wN l.length o t) (many l.length o), 0) := by
  unfold widenR; rw [if_neg hw, if_pos hb]
theorem widenR_no {l : List UInt8} {o t : Int} {j : Nat} (hw : ¬ (wd o = 0 ∨ wd t = 0)) (hj : j < many l.length o) (hb : ¬ cnt l (wd o) j < 2 ^ wd t) : widenR l o t = ([], 3) := by
  unfold widenR; rw [if_neg hw, if_neg (fun h => hb (h j hj))]
theorem zerosV (n : Nat) : List.replicate n (Value.int .u8 0) = (List.replicate n (0 : UInt8)).map byteV := by simp [byteV]

theorem nilBytes {h : Heap} : Bytes h (.slice none 0 0) [] := .inl ⟨rfl, rfl⟩

set_option maxHeartbeats 4000000 in
theorem Widen_c {v : Value} {l : List UInt8} {o t : Int} (hB : Bytes h v l) (hl : l.length < 100000)
    (H : ∀ v' h', Ext h h' → Bytes h' v' (widenR l o t).1 → (∀ b, blkV v' = some b → h.size ≤ b) → K (.tuple #[v', .int .i64 (widenR l o t).2]) h') :
    CallsH Try.prog 55 #[v, .int .i64 o, .int .i64 t] h K ⟨⟩ := by
  obtain ⟨q, q0, rfl⟩ := hB.form
  obtain ⟨h0, e0⟩ : ∃ h0, h0 = ((h.push (.cells #[.int .i64 t] 3)).push (.cells #[.slice none 0 0] 39)).push (.cells #[.int .i64 0] 27) := ⟨_, rfl⟩
  have hE0 : Ext h h0 := by rw [e0]; exact (by repeat' (first | (with_reducible exact Ext.refl _) | (with_reducible assumption) | (with_reducible refine push_ext ?_) | (with_reducible refine hset_ext ?_ ?_) | (with_reducible refine Ext.trans ?_ (by assumption)) | omega | (simp; done) | (simp; omega) | (refine Ext.size ?_) | (refine Nat.le_succ_of_le (Ext.size ?_))))
  have c0 : Cel h0 h.size 0 (.int .i64 t) := by simp (disch := omega) [e0, Cel_iff]
  have c1 : Cel h0 (h.size + 1) 0 (.slice none 0 0) := by simp (disch := omega) [e0, Cel_iff]
  have c2 : Cel h0 (h.size + 2) 0 (.int .i64 0) := by simp (disch := omega) [e0, Cel_iff]
  have hz0 : h0.size = h.size + 3 := by simp [e0]
  refine n55_calls ?_
  unfold n55
  simp (disch := omega) [← e0]
  clear e0
  refine Many_c (hB.ext hE0) (by omega) fun h1 e1 => ?_
  have c0 := c0.ext e1
  have c1 := c1.ext e1
  have c2 := c2.ext e1
  simp (disch := omega) [c0.get]
  refine Most_c fun h2 e2 => ?_
  have c0 := c0.ext e2
  have c1 := c1.ext e2
  have c2 := c2.ext e2
  have hE2 := (hE0.trans e1).trans e2
  have l2 := c2.lt
  simp (disch := omega)
  by_cases hw : wd o = 0 ∨ wd t = 0
  · rw [widenR_bad hw] at H
    by_cases hw0 : wd o = 0
    · simp (disch := omega) [hw0, c1.get, c1.free, c2.get, c2.free]
      refine RetD_nil ?_
      simp (disch := omega) [c1.get, c1.free, c2.get, c2.free]
      exact H _ _ (by repeat' (first | (with_reducible exact Ext.refl _) | (with_reducible assumption) | (with_reducible refine push_ext ?_) | (with_reducible refine hset_ext ?_ ?_) | (with_reducible refine Ext.trans ?_ (by assumption)) | omega | (simp; done) | (simp; omega) | (refine Ext.size ?_) | (refine Nat.le_succ_of_le (Ext.size ?_)))) nilBytes (fun b hb => by cases hb)
    · have hwt : wd t = 0 := by omega
      simp (disch := omega) [hw0, hwt, c1.get, c1.free, c2.get, c2.free]
      refine RetD_nil ?_
      simp (disch := omega) [c1.get, c1.free, c2.get, c2.free]
      exact H _ _ (by repeat' (first | (with_reducible exact Ext.refl _) | (with_reducible assumption) | (with_reducible refine push_ext ?_) | (with_reducible refine hset_ext ?_ ?_) | (with_reducible refine Ext.trans ?_ (by assumption)) | omega | (simp; done) | (simp; omega) | (refine Ext.size ?_) | (refine Nat.le_succ_of_le (Ext.size ?_)))) nilBytes (fun b hb => by cases hb)
  · have hw0 : wd o ≠ 0 := fun e => hw (.inl e)
    have hwt : wd t ≠ 0 := fun e => hw (.inr e)
    have hwtp := wok_pos (wok_wd hwt)
    have hmb := many_bd l.length o
    obtain ⟨M, hM⟩ : ∃ M, M = many l.length o * wd t := ⟨_, rfl⟩
    have hMi : (many l.length o : Int) * (wd t : Int) = M := by rw [hM]; push_cast; rfl
    have hMb : M ≤ 8 * l.length * 64 := by rw [hM]; exact Nat.mul_le_mul hmb hwtp.2
    have hN : wN l.length o t = (M + 7) / 8 := by unfold wN; rw [hM]
    generalize hNN : wN l.length o t = N at *
    have tN : (((M : Int) + 7) / 8).toNat = N := by omega
    have hpos := Nat.pow_pos (n := wd t) (show 0 < 2 by omega)
    have hQl : 2 ^ wd t - 1 < 2 ^ wd t := by omega
    have hQ64 := two64 hwtp.2 hQl
    generalize hQ : 2 ^ wd t - 1 = Q at *
    simp (disch := omega) [hw0, hwt, c0.get, c0.free]
    refine Width_c fun h4 e4 => ?_
    simp (disch := omega) [hMi, tN, zerosV]
    refine JoinN.mk ?_
    have c0 := (c0.ext (h' := hset (h2.push (.cells #[.int .u64 0] 25)) ⟨h2.size, 0, none⟩ (.int .u64 Q)) (by repeat' (first | (with_reducible exact Ext.refl _) | (with_reducible assumption) | (with_reducible refine push_ext ?_) | (with_reducible refine hset_ext ?_ ?_) | (with_reducible refine Ext.trans ?_ (by assumption)) | omega | (simp; done) | (simp; omega) | (refine Ext.size ?_) | (refine Nat.le_succ_of_le (Ext.size ?_))))).ext e4
    have c1 := (c1.ext (h' := hset (h2.push (.cells #[.int .u64 0] 25)) ⟨h2.size, 0, none⟩ (.int .u64 Q)) (by repeat' (first | (with_reducible exact Ext.refl _) | (with_reducible assumption) | (with_reducible refine push_ext ?_) | (with_reducible refine hset_ext ?_ ?_) | (with_reducible refine Ext.trans ?_ (by assumption)) | omega | (simp; done) | (simp; omega) | (refine Ext.size ?_) | (refine Nat.le_succ_of_le (Ext.size ?_))))).ext e4
    have c2 := (c2.ext (h' := hset (h2.push (.cells #[.int .u64 0] 25)) ⟨h2.size, 0, none⟩ (.int .u64 Q)) (by repeat' (first | (with_reducible exact Ext.refl _) | (with_reducible assumption) | (with_reducible refine push_ext ?_) | (with_reducible refine hset_ext ?_ ?_) | (with_reducible refine Ext.trans ?_ (by assumption)) | omega | (simp; done) | (simp; omega) | (refine Ext.size ?_) | (refine Nat.le_succ_of_le (Ext.size ?_))))).ext e4
    have c3 : Cel h4 h2.size 0 (.int .u64 Q) := Cel.ext (h := hset (h2.push (.cells #[.int .u64 0] 25)) ⟨h2.size, 0, none⟩ (.int .u64 Q)) ⟨by simp, by simp⟩ e4
    have hE4 : Ext h h4 := Ext.trans (b := hset (h2.push (.cells #[.int .u64 0] 25)) ⟨h2.size, 0, none⟩ (.int .u64 Q)) (by repeat' (first | (with_reducible exact Ext.refl _) | (with_reducible assumption) | (with_reducible refine push_ext ?_) | (with_reducible refine hset_ext ?_ ?_) | (with_reducible refine Ext.trans ?_ (by assumption)) | omega | (simp; done) | (simp; omega) | (refine Ext.size ?_) | (refine Nat.le_succ_of_le (Ext.size ?_)))) e4
    have l4 := c2.lt
    have l3 := c3.lt
    refine (⟨_, rfl⟩ : ∃ g, g = hset ((h4.push (.cells (Array.replicate N (Value.int .u8 0)) 5)).push (.cells #[.slice none 0 0] 39)) ⟨h4.size + 1, 0, none⟩ (.slice (some ⟨h4.size, 0, none⟩) N N)).elim fun h5 e5 => ?_
    simp only [← e5]
    have hE45 : Ext h4 h5 := by rw [e5]; exact (by repeat' (first | (with_reducible exact Ext.refl _) | (with_reducible assumption) | (with_reducible refine push_ext ?_) | (with_reducible refine hset_ext ?_ ?_) | (with_reducible refine Ext.trans ?_ (by assumption)) | omega | (simp; done) | (simp; omega) | (refine Ext.size ?_) | (refine Nat.le_succ_of_le (Ext.size ?_))))
    have c4 : Cel h5 (h4.size + 1) 0 (.slice (some ⟨h4.size, 0, none⟩) N N) := by rw [e5]; exact ⟨by simp, by simp⟩
    have hO5 : OwnS 1 h5 (.slice (some ⟨h4.size, 0, none⟩) N N) ((List.replicate N (0 : UInt8)).map byteV) := by
      have h1 : OwnS 1 (h4.push (.cells ((List.replicate N (0 : UInt8)).map byteV).toArray 5)) (.slice (some ⟨h4.size, 0, none⟩) N N) ((List.replicate N (0 : UInt8)).map byteV) := OwnS_new rfl (by simp)
      have h2 : ((List.replicate N (0 : UInt8)).map byteV).toArray = Array.replicate N (Value.int .u8 0) := by simp [byteV]
      rw [h2] at h1
      rw [e5]
      exact (h1.ext (push_ext (.refl _))).mod (Mod.set _ _ _) (fun b hb e => by cases hb; simp at e)
    have z5 : h5.size = h4.size + 2 := by rw [e5]; simp
    clear e5
    have c0 := c0.ext hE45
    have c1 := c1.ext hE45
    have c2 := c2.ext hE45
    have c3 := c3.ext hE45
    have hE5 := hE4.trans hE45
    refine CAll_c (hB.ext hE5) (by omega) fun h6 o6 q6 e6 hz6 cA hBA cB hFA => ?_
    have hBA6 := fun b (hn : l ≠ []) hb => hBA.lt (b := b) hb hn
    refine JoinN.mk ?_
    refine RangeC_none rfl fun oR oB oE oX oF Kp hoR hoB hround hNo hR hX => ?_
    refine InvokeH_1_2 (by kernel_rfl) ?_
    refine (⟨_, rfl⟩ : ∃ g, g = (h6.push (.deferred (some []))).push oR).elim fun hc ec => ?_
    have zc : hc.size = h6.size + 2 := by rw [ec]; simp
    have e6c : Ext h6 hc := by rw [ec]; exact (by repeat' (first | (with_reducible exact Ext.refl _) | (with_reducible assumption) | (with_reducible refine push_ext ?_) | (with_reducible refine hset_ext ?_ ?_) | (with_reducible refine Ext.trans ?_ (by assumption)) | omega | (simp; done) | (simp; omega) | (refine Ext.size ?_) | (refine Nat.le_succ_of_le (Ext.size ?_))))
    have rD : hc[h6.size]? = some (.deferred (some [])) := by rw [ec, get_push (by simp), get_pushed rfl]
    have rL : hc[h6.size + 1]? = some oR := by rw [ec, get_pushed (by simp)]
    rw [← ec]
    clear ec
    have e5c := e6.trans e6c
    have c0 := c0.ext e5c
    have c1 := c1.ext e5c
    have c2 := c2.ext e5c
    have c3 := c3.ext e5c
    have c4 := c4.ext e5c
    have cA := hcell_ext e6c cA
    have cB := hcell_ext e6c cB
    have hBA := hBA.ext e6c
    have hO5 := hO5.ext e5c
    have hEc := hE5.trans e5c
    have hBl : ∀ a, blkV (.slice o6 l.length q6) = some a → h5.size ≤ a := fun a ha => by
      cases o6 with
      | none => cases ha
      | some x => cases ha; exact hFA x rfl
    refine CAll1_c (l := l) (o := o) (by omega)
      (fun i h' => Mod (fun x => x = h4.size ∨ x = h6.size + 1 ∨ x = h.size + 1 ∨ x = h.size + 2) hc h' ∧ h'[h6.size + 1]? = some oR ∧ OwnS 1 h' (.slice (some ⟨h4.size, 0, none⟩) N N) ((wL l (wd o) (wd t) N i).map byteV) ∧ Cel h' (h.size + 1) 0 (.slice none 0 0) ∧ Cel h' (h.size + 2) 0 (.int .i64 0) ∧ ∀ j, j < i → cnt l (wd o) j < 2 ^ wd t)
      (fun h' => Mod (fun x => x = h4.size ∨ x = h6.size + 1 ∨ x = h.size + 1 ∨ x = h.size + 2) hc h' ∧ h'[h6.size + 1]? = some (oX .ret) ∧ Cel h' (h.size + 1) 0 (.slice none 0 0) ∧ Cel h' (h.size + 2) 0 (.int .i64 3) ∧ ∃ j, j < many l.length o ∧ ¬ cnt l (wd o) j < 2 ^ wd t)
      (fun i h' hJ => ?_) (fun i h' h'' hJ e => ?_) (fun i h' hJ _ hi hz => ?_) (fun i h' hJ _ hi hnz K hK1 hK2 => ?_) ⟨Mod.refl _ _, rL, by simpa [wL] using hO5, c1, c2, fun j hj => by omega⟩ (fun h' hJ => ?_) (fun h' hE => ?_)
    · have m := hJ.1
      refine ⟨o6, q6, ?_, hBA.modX m (fun b hn hb' _ => ?_), ?_⟩
      · exact (m.cell (a := ⟨h5.size, 0, none⟩) (hcell_lt cA) (by dsimp only; omega)).trans cA
      · have := hBl b hb'
        have := hBA6 b hn hb'
        omega
      · exact (m.cell (a := ⟨h5.size + 1, 0, none⟩) (hcell_lt cB) (by dsimp only; omega)).trans cB
    · exact ⟨hJ.1.extIn e, (get_ext e (get_some_lt hJ.2.1)).trans hJ.2.1, hJ.2.2.1.ext e, hJ.2.2.2.1.ext e, hJ.2.2.2.2.1.ext e, hJ.2.2.2.2.2⟩
    · refine ⟨hJ.1, hJ.2.1, by unfold wL; rw [if_pos hz]; exact hJ.2.2.1, hJ.2.2.2.1, hJ.2.2.2.2.1, fun j hj => ?_⟩
      by_cases e : j = i
      · rw [e, hz]; omega
      · exact hJ.2.2.2.2.2 j (by omega)
    · have r := hJ.2.1
      have m := hJ.1.putIn (c := h6.size + 1) (o := oB) (by omega)
      have rB := get_put (o := oB) (get_some_lt r)
      have hO := hJ.2.2.1.mod (Mod.put h' (h6.size + 1) oB) (fun b hb e => by cases hb; simp at e; omega)
      have hlt := hJ.2.2.2.2.2
      have t6 := hJ.2.2.2.1.mod (Mod.put h' (h6.size + 1) oB) (by omega)
      have t7 := hJ.2.2.2.2.1.mod (Mod.put h' (h6.size + 1) oB) (by omega)
      refine hround _ _ _ rfl r ?_
      refine ⟨r, ?_⟩
      dsimp only
      generalize h'.setIfInBounds (h6.size + 1) oB = g at *
      have c0 := c0.mod m (by omega)
      have c3 := c3.mod m (by omega)
      have c4 := c4.mod m (by omega)
      by_cases hx : cnt l (wd o) i < 2 ^ wd t
      · simp (disch := omega) [c3.get, c0.get, c4.get]
        refine Width_c fun h7 e7 => ?_
        have c4 := c4.ext e7
        simp (disch := omega) [c4.get]
        have hO7 := hO.ext e7
        have hiw : i * wd t + wd t ≤ 8 * N := by
          have := Nat.mul_le_mul_right (wd t) (show i + 1 ≤ many l.length o by omega)
          rw [Nat.add_mul, ← hM] at this
          omega
        refine cset_c' (l := wL l (wd o) (wd t) N i) (z := []) (by simp) (by simpa using hO7) (by simp; omega) (wok_wd hwt) hiw hx fun h8 hO8 hM8 => ?_
        have m8 : Mod (fun x => x = h4.size ∨ x = h6.size + 1 ∨ x = h.size + 1 ∨ x = h.size + 2) hc h8 := (m.extIn e7).trans hM8 (fun b _ e => .inl e)
        have rB8 := (hM8.block (h6.size + 1) (get_some_lt ((get_ext e7 (get_some_lt rB)).trans rB)) (by omega)).trans ((get_ext e7 (get_some_lt rB)).trans rB)
        have t6 := (t6.ext e7).mod hM8 (by omega)
        have t7 := (t7.ext e7).mod hM8 (by omega)
        refine ⟨rB8, hK1 _ ⟨m8.putIn (by omega), get_put (get_some_lt rB8), ?_, t6.mod (Mod.put _ _ _) (by omega), t7.mod (Mod.put _ _ _) (by omega), fun j hj => ?_⟩⟩
        · have e : wL l (wd o) (wd t) N (i + 1) = setC (wL l (wd o) (wd t) N i) (wd t) i (cnt l (wd o) i) := by rw [wL, if_neg hnz]
          rw [e]
          rw [List.append_nil] at hO8
          exact hO8.mod (Mod.put _ _ _) (fun b hb e => by simp [blkV] at hb; omega)
        · by_cases e : j = i
          · rw [e]; exact hx
          · exact hlt j (by omega)
      · simp (disch := omega) [c3.get, t6.get, t6.free, t7.get, t7.free]
        have lg := m.size
        have lt6 := t6.lt
        have lt7 := t7.lt
        refine ⟨(by repeat' (first | (with_reducible assumption) | (with_reducible exact get_put (by simp; omega)) | (refine (get_hset' ?_).trans ?_) | (refine (get_push ?_).trans ?_) | (refine (get_putne ?_).trans ?_) | (refine (get_ext (by assumption) ?_).trans ?_) | omega | (dsimp only; omega) | (simp; done) | (simp; omega))), hK2 _ ⟨(by repeat' (first | (with_reducible exact Mod.refl _ _) | (with_reducible assumption) | (with_reducible refine Mod.pushIn ?_) | (with_reducible refine Mod.setIn ?_ ?_) | (with_reducible refine Mod.putIn ?_ ?_) | (with_reducible refine Mod.extIn ?_ (by assumption)) | (exact Or.inr (by omega)) | (exact Or.inr (by simp; omega)) | (exact Or.inl (by simp)) | (exact Or.inl (by simp; omega)))), (by repeat' (first | (with_reducible assumption) | (with_reducible exact get_put (by simp; omega)) | (refine (get_hset' ?_).trans ?_) | (refine (get_push ?_).trans ?_) | (refine (get_putne ?_).trans ?_) | (refine (get_ext (by assumption) ?_).trans ?_) | omega | (dsimp only; omega) | (simp; done) | (simp; omega))), ?_, ?_, i, hi, hx⟩⟩
        · simp (disch := omega) [Cel_iff, hcell_put', hfrozen_put', t6.get, t6.free]
        · simp (disch := omega) [Cel_iff, hcell_put', hfrozen_put', t7.get, t7.free]
    · have m := hJ.1
      have r := hJ.2.1
      have t6 := hJ.2.2.2.1
      have t7 := hJ.2.2.2.2.1
      refine hNo _ _ r ?_
      have sm := m.size
      have rD' := (m.block h6.size (get_some_lt rD) (by omega)).trans rD
      have mE := m.putIn (c := h6.size + 1) (o := oE) (by omega)
      have mE' : Mod (fun x => x = h4.size ∨ x = h6.size + 1 ∨ x = h.size + 1 ∨ x = h.size + 2 ∨ x = h6.size) hc _ := mE.mono (fun b _ e => by omega)
      have rE := (get_putne (h := h') (o := oE) (show h6.size ≠ h6.size + 1 by omega)).trans rD'
      have t6 := t6.mod (Mod.put h' (h6.size + 1) oE) (by omega)
      have t7 := t7.mod (Mod.put h' (h6.size + 1) oE) (by omega)
      have hOE := hJ.2.2.1.mod (Mod.put h' (h6.size + 1) oE) (fun b hb e => by simp [blkV] at hb; omega)
      have c4 := c4.mod mE (by omega)
      have hlt := hJ.2.2.2.2.2
      rw [widenR_ok hw hlt] at H
      rw [hNN] at H
      generalize h'.setIfInBounds (h6.size + 1) oE = g at *
      simp (disch := omega) [c4.get, t6.get, t6.free, t7.get, t7.free]
      have lg := t6.lt
      have lg7 := t7.lt
      have lgE := get_some_lt rE
      refine RetD_one' (by repeat' (first | (with_reducible assumption) | (with_reducible exact get_put (by simp; omega)) | (refine (get_hset' ?_).trans ?_) | (refine (get_push ?_).trans ?_) | (refine (get_putne ?_).trans ?_) | (refine (get_ext (by assumption) ?_).trans ?_) | omega | (dsimp only; omega) | (simp; done) | (simp; omega))) ?_
      simp (disch := omega) [hcell_put', t6.get, t7.get]
      refine H _ _ ?_ ?_ ?_
      · exact Mod.ext_from hEc ((by repeat' (first | (with_reducible exact Mod.refl _ _) | (with_reducible assumption) | (with_reducible refine Mod.pushIn ?_) | (with_reducible refine Mod.setIn ?_ ?_) | (with_reducible refine Mod.putIn ?_ ?_) | (with_reducible refine Mod.extIn ?_ (by assumption)) | (exact Or.inr (by omega)) | (exact Or.inr (by simp; omega)) | (exact Or.inl (by simp)) | (exact Or.inl (by simp; omega)))) : Mod (fun x => x = h4.size ∨ x = h6.size + 1 ∨ x = h.size + 1 ∨ x = h.size + 2 ∨ x = h6.size) hc _) (fun b hb hS => by omega)
      · have hb1 := hOE.bytes
        refine hb1.modX (S := fun x => x = h.size + 1 ∨ x = h.size + 2 ∨ x = h6.size) (by repeat' (first | (with_reducible exact Mod.refl _ _) | (with_reducible assumption) | (with_reducible refine Mod.pushIn ?_) | (with_reducible refine Mod.setIn ?_ ?_) | (with_reducible refine Mod.putIn ?_ ?_) | (with_reducible refine Mod.extIn ?_ (by assumption)) | (exact Or.inr (by omega)) | (exact Or.inr (by simp; omega)) | (exact Or.inl (by simp)) | (exact Or.inl (by simp; omega)))) (fun b _ hb _ => by simp [blkV] at hb; omega)
      · intro b hb; simp [blkV] at hb; omega
    · obtain ⟨m, r, t6, t7, j, hj, hbig⟩ := hE
      refine hR _ _ r ?_
      have sm := m.size
      have rD' := (m.block h6.size (get_some_lt rD) (by omega)).trans rD
      have mE := m.putIn (c := h6.size + 1) (o := oF .ret) (by omega)
      have rE := (get_putne (h := h') (o := oF .ret) (show h6.size ≠ h6.size + 1 by omega)).trans rD'
      have t6 := t6.mod (Mod.put h' (h6.size + 1) (oF .ret)) (by omega)
      have t7 := t7.mod (Mod.put h' (h6.size + 1) (oF .ret)) (by omega)
      rw [widenR_no hw hj hbig] at H
      have mE' : Mod (fun x => x = h4.size ∨ x = h6.size + 1 ∨ x = h.size + 1 ∨ x = h.size + 2 ∨ x = h6.size) hc _ := mE.mono (fun b _ e => by omega)
      generalize h'.setIfInBounds (h6.size + 1) (oF .ret) = g at *
      refine RetD_one' rE ?_
      simp (disch := omega) [hcell_put', t6.get, t7.get]
      refine H _ _ ?_ nilBytes (fun b hb => by cases hb)
      exact Mod.ext_from hEc ((by repeat' (first | (with_reducible exact Mod.refl _ _) | (with_reducible assumption) | (with_reducible refine Mod.pushIn ?_) | (with_reducible refine Mod.setIn ?_ ?_) | (with_reducible refine Mod.putIn ?_ ?_) | (with_reducible refine Mod.extIn ?_ (by assumption)) | (exact Or.inr (by omega)) | (exact Or.inr (by simp; omega)) | (exact Or.inl (by simp)) | (exact Or.inl (by simp; omega)))) : Mod (fun x => x = h4.size ∨ x = h6.size + 1 ∨ x = h.size + 1 ∨ x = h.size + 2 ∨ x = h6.size) hc _) (fun b hb hS => by omega)
end Go.Proofs.Ytmppolccfjfoaaa
