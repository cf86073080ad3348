/- Later: runs in slices; whether they may be. Later: how many bytes runs have; sorted runs; the same runs. Later: runs sorted; put together; lists behind one another. Later: the code's putting together; runs behind one another; the same runs. Later: lists behind one another; lists compared. -/
import Derived.Test.YtgcllbelgakjgaaSrrC
import Derived.Test.YtgcllbelgakjgaaLatP
import Derived.Test.YtgcllbelgakjgaaVcG
import Derived.Test.YtgcllbelgakjgaaVcZ
set_option linter.unusedSimpArgs false
set_option linter.unusedVariables false
namespace Go.Proofs.Ytgcllbelgakjgaa
open Go.Vc
variable {K : Value → Heap → Prop} {h : Heap}

/-- A cell of a block that is known whole. -/
theorem cellOf {b i : Nat} {arr : Array Value} {t : Go.TypeId} {v : Value} (hb : h[b]? = some (.cells arr t)) (hv : arr[i]? = some v) : hcell h ⟨b, i, none⟩ = some v := by
  unfold hcell; simp [hb, hv]
theorem frzOf {b i : Nat} {arr : Array Value} {t : Go.TypeId} (hb : h[b]? = some (.cells arr t)) : hfrozen h ⟨b, i, none⟩ = false := by
  unfold hfrozen; simp [hb]
def i64 (n : Int) : Prop := -9223372036854775808 ≤ n ∧ n < 9223372036854775808
def rwV (x : Int × Int) : List Value := [.int .i64 x.1, .int .i64 x.2]
def rwA (x : Int × Int) : Value := .agg #[.int .i64 x.1, .int .i64 x.2]
def runT : Nat := 24
/-- Runs of any kind that are read. -/
structure Rws (h : Heap) (v : Value) (l : List (Int × Int)) : Prop where
  src : Src 2 h v l.length (l.flatMap rwV)
  form : ∃ a c, v = .slice a l.length c ∧ l.length ≤ c
  few : l.length < 9223372036854775808
  ok : ∀ f ∈ l, i64 f.1 ∧ i64 f.2
theorem Rws.ext {h' : Heap} {v : Value} {l : List (Int × Int)} (a : Rws h v l) (e : Ext h h') : Rws h' v l := ⟨a.src.ext e, a.form, a.few, a.ok⟩
theorem rwV_len (l : List (Int × Int)) : (l.flatMap rwV).length = l.length * 2 := by
  induction l with | nil => rfl | cons f l ih => rw [List.flatMap_cons, List.length_append, ih]; simp [rwV]; omega
theorem rwV_get : ∀ (l : List (Int × Int)) (i : Nat) (hi : i < l.length), (l.flatMap rwV)[i * 2]? = some (.int .i64 l[i].1) ∧ (l.flatMap rwV)[i * 2 + 1]? = some (.int .i64 l[i].2)
  | q :: l, 0, _ => by simp [rwV]
  | q :: l, i + 1, hi => by
    have := rwV_get l i (by simpa using hi)
    rw [List.flatMap_cons]
    have e1 : (i + 1) * 2 = (rwV q).length + i * 2 := by simp [rwV]; omega
    rw [e1, List.getElem?_append_right (by omega), List.getElem?_append_right (by omega), Nat.add_sub_cancel_left, show (rwV q).length + i * 2 + 1 - (rwV q).length = i * 2 + 1 by omega]
    simpa using this
theorem rwV_one (l : List (Int × Int)) : ∀ u ∈ l.flatMap rwV, one u = true := by
  intro u hu
  obtain ⟨q, hq, hu⟩ := List.mem_flatMap.1 hu
  simp [rwV] at hu
  rcases hu with rfl | rfl <;> rfl
theorem Rws.cell {v : Value} {l : List (Int × Int)} (a : Rws h v l) {i : Nat} (hi : i < l.length) : ∃ ad c, v = .slice (some ad) l.length c ∧ l.length ≤ c ∧ hcell h (elt ad (i * 2)) = some (.int .i64 l[i].1) ∧ hcell h (elt ad (i * 2 + 1)) = some (.int .i64 l[i].2) := by
  obtain ⟨a0, c, rfl, hc⟩ := a.form
  obtain ⟨h1, h2⟩ := rwV_get l i hi
  have hl := rwV_len l
  rcases a.src with ⟨e, e2, e3⟩ | ⟨ad, c', e, e2, hs⟩ | ⟨l, e, -⟩
  · omega
  · cases e
    rw [List.getElem?_eq_getElem (by omega)] at h1 h2
    exact ⟨ad, c, rfl, hc, (hs _ (by omega)).trans h1, (hs _ (by omega)).trans h2⟩
  · cases e
theorem Rws.nil : Rws h (.slice none 0 0) [] := ⟨.inl ⟨rfl, rfl, rfl⟩, ⟨none, 0, rfl, Nat.le_refl _⟩, by simp, by simp⟩

/-! ### Runs that may be -/
instance : Inhabited Rn := ⟨⟨0, 0⟩⟩
def rnP (x : Rn) : Int × Int := ((x.at_ : Nat), (x.len : Nat))
theorem rn_cells (L : List Rn) : L.flatMap (cell2 rnP) = (L.map rnP).flatMap rwV := by
  induction L with | nil => rfl | cons x L ih => rw [List.flatMap_cons, ih, List.map_cons, List.flatMap_cons]; rfl
/-- Lists of such runs. -/
def Fit (L : List Rn) : Prop := ∀ x ∈ L, x.at_ ≤ 72057594037927936 ∧ x.en ≤ 72057594037927936
abbrev Rns (h : Heap) (v : Value) (L : List Rn) : Prop := Rws h v (L.map rnP)
theorem Rns.of {v : Value} {L : List Rn} (o : OwnT runT 2 h v (L.flatMap (cell2 rnP))) (hl : L.length < 9223372036854775808) (hf : Fit L) : Rns h v L := by
  rw [rn_cells] at o
  obtain ⟨a, n, c, rfl, hn, hc, hne⟩ := o.form (by omega)
  rw [rwV_len] at hn
  have hn : (L.map rnP).length = n := by omega
  subst hn
  refine ⟨?_, ⟨a, c, rfl, hc⟩, by simpa using hl, fun f hf' => ?_⟩
  · rcases o with ⟨e, e2⟩ | ⟨b, n', c', rest, e, h1, h2, h3, h4⟩
    · injection e with e5 e6 e7
      exact .inl ⟨by rw [e5, e6, e7], e2, e6⟩
    · cases e
      refine .inr (.inl ⟨_, c, rfl, rwV_len _, fun i hi => ?_⟩)
      rw [elt_mk, Nat.zero_add, hcell_of_block h3]
      simp only [List.getElem?_toArray, Option.isSome_none, Bool.false_eq_true, if_false]
      rw [List.getElem?_append_left hi, List.getElem?_eq_getElem hi]
  · obtain ⟨x, hx, rfl⟩ := List.mem_map.1 hf'
    have := hf x hx
    unfold Rn.en at this
    unfold rnP i64
    dsimp only
    omega
theorem Rns.cell {v : Value} {L : List Rn} (a : Rns h v L) {i : Nat} (hi : i < L.length) : ∃ ad c, v = .slice (some ad) L.length c ∧ L.length ≤ c ∧ hcell h (elt ad (i * 2)) = some (.int .i64 (L[i].at_ : Nat)) ∧ hcell h (elt ad (i * 2 + 1)) = some (.int .i64 (L[i].len : Nat)) := by
  have := Rws.cell a (i := i) (by simpa using hi)
  simpa [rnP] using this
theorem Rns.form {v : Value} {L : List Rn} (a : Rns h v L) : ∃ o c, v = .slice o L.length c ∧ L.length ≤ c := by
  have := Rws.form a
  simpa using this
def mayR (x : Int × Int) : Prop := 0 ≤ x.1 ∧ 1 ≤ x.2 ∧ x.1 ≤ 72057594037927936 ∧ x.2 ≤ 72057594037927936 - x.1
instance : DecidablePred mayR := fun x => by unfold mayR; infer_instance
theorem may_c {x : Int × Int} (hx : i64 x.1 ∧ i64 x.2) (H : ∀ h', Ext h h' → K (.bool (decide (mayR x))) h') : CallsH Try.prog 33 #[rwA x] h K ⟨⟩ := by
  refine n33_calls ?_
  unfold n33 rwA
  obtain ⟨⟨x0, x1⟩, x2, x3⟩ := hx
  have key : ∀ b : Bool, (b = true ↔ mayR x) → K (.bool b) (h.push (.cells #[.int .i64 x.1, .int .i64 x.2] runT)) := fun b hb => by
    have := H _ ((by repeat' (first | (with_reducible exact Ext.refl _) | (with_reducible assumption) | (with_reducible refine push_ext ?_) | (with_reducible refine hset_ext ?_ ?_) | (with_reducible refine Ext.trans ?_ (by assumption)) | omega | (simp; done) | (simp; omega) | (refine Ext.size ?_) | (refine Nat.le_succ_of_le (Ext.size ?_)))) : Ext h (h.push (.cells #[.int .i64 x.1, .int .i64 x.2] runT)))
    rwa [show decide (mayR x) = b from by rw [Bool.eq_iff_iff, hb]; simp] at this
  unfold mayR at key
  clear H
  by_cases c1 : 0 ≤ x.1
  · by_cases c2 : 1 ≤ x.2
    · by_cases c3 : x.1 ≤ 72057594037927936
      · by_cases c4 : x.2 ≤ 72057594037927936 - x.1
        · simp (disch := omega) [c1, c2, c3, c4]
          exact key true (by simp; omega)
        · simp (disch := omega) [c1, c2, c3, c4]
          exact key false (by simp; omega)
      · simp (disch := omega) [c1, c2, c3]
        exact key false (by simp; omega)
    · simp (disch := omega) [c1, c2]
      exact key false (by simp; omega)
  · simp (disch := omega) [c1]
    exact key false (by simp; omega)
theorem refMay_c {x : Int × Int} (hx : i64 x.1 ∧ i64 x.2) (H : ∀ h', Ext h h' → K (.bool (decide (mayR x))) h') : CallsH Try.prog 18 #[rwA x] h K ⟨⟩ := by
  refine n18_calls ?_
  unfold n18 rwA
  obtain ⟨⟨x0, x1⟩, x2, x3⟩ := hx
  have key : ∀ b : Bool, (b = true ↔ mayR x) → K (.bool b) (h.push (.cells #[.int .i64 x.1, .int .i64 x.2] runT)) := fun b hb => by
    have := H _ ((by repeat' (first | (with_reducible exact Ext.refl _) | (with_reducible assumption) | (with_reducible refine push_ext ?_) | (with_reducible refine hset_ext ?_ ?_) | (with_reducible refine Ext.trans ?_ (by assumption)) | omega | (simp; done) | (simp; omega) | (refine Ext.size ?_) | (refine Nat.le_succ_of_le (Ext.size ?_)))) : Ext h (h.push (.cells #[.int .i64 x.1, .int .i64 x.2] runT)))
    rwa [show decide (mayR x) = b from by rw [Bool.eq_iff_iff, hb]; simp] at this
  unfold mayR at key
  clear H
  by_cases c1 : 0 ≤ x.1
  · by_cases c2 : 1 ≤ x.2
    · by_cases c3 : x.1 ≤ 72057594037927936
      · by_cases c4 : x.2 ≤ 72057594037927936 - x.1
        · simp (disch := omega) [c1, c2, c3, c4]
          exact key true (by simp; omega)
        · simp (disch := omega) [c1, c2, c3, c4]
          exact key false (by simp; omega)
      · simp (disch := omega) [c1, c2, c3]
        exact key false (by simp; omega)
    · simp (disch := omega) [c1, c2]
      exact key false (by simp; omega)
  · simp (disch := omega) [c1]
    exact key false (by simp; omega)
end Go.Proofs.Ytgcllbelgakjgaa
set_option linter.unusedSimpArgs false
set_option linter.unusedVariables false
namespace Go.Proofs.Ytgcllbelgakjgaa
open Go.Vc Go.Sort
variable {K : Value → Heap → Prop} {h : Heap}

theorem put1_c {x : Int × Int} (hx : i64 x.1 ∧ i64 x.2) (H : ∀ h', Ext h h' → K (.bool (!decide (mayR x))) h') : InvokeH Try.prog (.func (.func 32) #[] #[]) #[rwA x] h K ⟨⟩ := by
  refine InvokeH_func (by kernel_rfl) ?_
  show CallsH Try.prog 32 #[rwA x] h K ⟨⟩
  refine n32_calls ?_
  unfold n32 rwA
  simp (disch := omega)
  refine may_c hx fun h1 e1 => ?_
  simp (disch := omega)
  exact H _ (((by repeat' (first | (with_reducible exact Ext.refl _) | (with_reducible assumption) | (with_reducible refine push_ext ?_) | (with_reducible refine hset_ext ?_ ?_) | (with_reducible refine Ext.trans ?_ (by assumption)) | omega | (simp; done) | (simp; omega) | (refine Ext.size ?_) | (refine Nat.le_succ_of_le (Ext.size ?_)))) : Ext h (h.push (.cells #[.int .i64 x.1, .int .i64 x.2] runT))).trans e1)
theorem badR_c {v : Value} {l : List (Int × Int)} (a : Rws h v l) (H : ∀ h', Ext h h' → K (.bool (l.any fun x => !decide (mayR x))) h') :
    CallsH Try.prog 31 #[v, .func (.func 32) #[] #[]] h K ⟨⟩ := by
  refine n31_calls ?_
  unfold n31
  refine n53_calls ?_
  unfold n53
  obtain ⟨ad, c, rfl, hc⟩ := a.form
  have hl := a.few
  simp (disch := omega)
  refine loopX1 (fun i : Nat => .int .i64 i) (fun i g => Ext h g ∧ i ≤ l.length ∧ ∀ j (hj : j < l.length), j < i → mayR l[j]) (fun i => l.length - i) 0 rfl ⟨.refl _, by omega, fun j _ hj => by omega⟩ ?_
  rintro i g ⟨e1, hi, hno⟩ X hX
  by_cases hin : i < l.length
  · obtain ⟨ad', c', hv, -, c0, c1⟩ := (a.ext e1).cell hin
    obtain ⟨rfl, -⟩ : ad = some ad' ∧ c = c' := by cases hv; exact ⟨rfl, rfl⟩
    simp (disch := omega) [c0, c1]
    refine put1_c (x := l[i]) (a.ok _ (List.getElem_mem hin)) fun h2 e2 => ?_
    by_cases hm : mayR l[i]
    · simp (disch := omega) [hm]
      refine hX (i + 1) _ _ (by simp) ⟨e1.trans e2, hin, fun j hj hji => ?_⟩ (by omega)
      by_cases e : j = i
      · subst e; exact hm
      · exact hno j hj (by omega)
    · simp (disch := omega) [hm]
      have : (l.any fun x => !decide (mayR x)) = true := List.any_eq_true.2 ⟨l[i], List.getElem_mem hin, by simpa using hm⟩
      rw [this] at H
      exact H _ (e1.trans e2)
  · simp (disch := omega)
    have : (l.any fun x => !decide (mayR x)) = false := by
      rw [List.any_eq_false]
      intro x hx
      obtain ⟨j, hj, rfl⟩ := List.getElem_of_mem hx
      simpa using hno j hj (by omega)
    rw [this] at H
    exact H _ e1

theorem bytesR_take {L : List Rn} {i : Nat} (hi : i < L.length) : bytesR (L.take (i + 1)) = bytesR (L.take i) + L[i].len := by
  rw [List.take_succ_eq_append_getElem hi, bytesR_app]; simp [bytesR]
theorem bytesR_take_le (L : List Rn) (i : Nat) : bytesR (L.take i) ≤ bytesR L := by
  have := bytesR_app (L.take i) (L.drop i)
  rw [List.take_append_drop] at this; omega
theorem overR_take {x : Rn} {L : List Rn} {i : Nat} (hi : i < L.length) : overR x (L.take (i + 1)) = overR x (L.take i) + meet x L[i] := by
  rw [List.take_succ_eq_append_getElem hi, over_app]; simp [overR]
theorem overR_take_le (x : Rn) (L : List Rn) (i : Nat) : overR x (L.take i) ≤ overR x L := by
  have := over_app x (L.take i) (L.drop i)
  rw [List.take_append_drop] at this; omega
theorem meet_le (x y : Rn) : meet x y ≤ y.len := by unfold meet Rn.en; omega
theorem overR_le (x : Rn) : ∀ L : List Rn, overR x L ≤ bytesR L
  | [] => by simp [overR, bytesR]
  | y :: L => by
    have := overR_le x L
    have := meet_le x y
    unfold overR bytesR at *
    simp only [List.map_cons, List.sum_cons]
    omega
/-- What is covered lies below the greatest place. -/
theorem bytes_fit {L : List Rn} (hc : Vc.Can L) (hf : Fit L) : bytesR L ≤ 72057594037927936 := by
  have h1 := ivR_le (l := L) (a := 0) (b := 72057594037927936) (n := 0) hc (fun y _ => Nat.zero_le _)
  have h2 : ∀ L : List Rn, Fit L → ivR 0 72057594037927936 L = bytesR L := fun L => by
    induction L with
    | nil => intro _; rfl
    | cons y L ih =>
      intro hf
      have := ih (fun z hz => hf z (List.mem_cons_of_mem _ hz))
      have h3 := hf y (by simp)
      rw [ivR_cons, this]
      unfold bytesR Rn.en at *
      simp only [List.map_cons, List.sum_cons]
      omega
  rw [h2 L hf] at h1
  omega
theorem bytes_c {v : Value} {L : List Rn} (a : Rns h v L) (hB : bytesR L ≤ 72057594037927936) (H : ∀ h', Ext h h' → K (.int .i64 (bytesR L : Nat)) h') : CallsH Try.prog 39 #[v] h K ⟨⟩ := by
  refine n39_calls ?_
  unfold n39
  obtain ⟨ad, c, rfl, hc⟩ := Rns.form a
  have hl := a.few
  simp only [List.length_map] at hl
  simp (disch := omega)
  refine loopX2 (α := Nat) (fun i => .int .i64 (bytesR (L.take i) : Nat)) (fun i => .int .i64 i) (fun i g => Ext h g ∧ i ≤ L.length) (fun i => L.length - i) 0 ⟨by simp [bytesR], by simp⟩ ⟨.refl _, by omega⟩ ?_
  rintro i g ⟨e1, hi⟩ X hX
  by_cases hin : i < L.length
  · obtain ⟨ad', c', hv, -, c0, c1⟩ := Rns.cell (a.ext e1) hin
    obtain ⟨rfl, -⟩ : ad = some ad' ∧ c = c' := by cases hv; exact ⟨rfl, rfl⟩
    have h1 := bytesR_take hin
    have h2 := bytesR_take_le L (i + 1)
    simp (disch := omega) [c0, c1]
    exact hX (i + 1) _ _ _ (by rw [h1]; simp) (by simp) ⟨e1.trans (by repeat' (first | (with_reducible exact Ext.refl _) | (with_reducible assumption) | (with_reducible refine push_ext ?_) | (with_reducible refine hset_ext ?_ ?_) | (with_reducible refine Ext.trans ?_ (by assumption)) | omega | (simp; done) | (simp; omega) | (refine Ext.size ?_) | (refine Nat.le_succ_of_le (Ext.size ?_)))), hin⟩ (by omega)
  · simp (disch := omega)
    rw [List.take_of_length_le (by omega)]
    exact H _ e1
theorem refBytes_c {v : Value} {L : List Rn} (a : Rns h v L) (hB : bytesR L ≤ 72057594037927936) (H : ∀ h', Ext h h' → K (.int .i64 (bytesR L : Nat)) h') : CallsH Try.prog 25 #[v] h K ⟨⟩ := by
  refine n25_calls ?_
  unfold n25
  obtain ⟨ad, c, rfl, hc⟩ := Rns.form a
  have hl := a.few
  simp only [List.length_map] at hl
  refine loopX2 (α := Nat) (fun i => .int .i64 (bytesR (L.take i) : Nat)) (fun i => .int .i64 i) (fun i g => Ext h g ∧ i ≤ L.length) (fun i => L.length - i) 0 ⟨by simp [bytesR], by simp⟩ ⟨.refl _, by omega⟩ ?_
  rintro i g ⟨e1, hi⟩ X hX
  by_cases hin : i < L.length
  · obtain ⟨ad', c', hv, -, c0, c1⟩ := Rns.cell (a.ext e1) hin
    obtain ⟨rfl, -⟩ : ad = some ad' ∧ c = c' := by cases hv; exact ⟨rfl, rfl⟩
    have h1 := bytesR_take hin
    have h2 := bytesR_take_le L (i + 1)
    simp (disch := omega) [c0, c1]
    exact hX (i + 1) _ _ _ (by rw [h1]; simp) (by simp) ⟨e1, hin⟩ (by omega)
  · simp (disch := omega)
    rw [List.take_of_length_le (by omega)]
    exact H _ e1
theorem over_c {v : Value} {L : List Rn} {x : Rn} (a : Rns h v L) (hf : Fit L) (hx : x.en ≤ 72057594037927936) (hB : bytesR L ≤ 72057594037927936) (H : ∀ h', Ext h h' → K (.int .i64 (overR x L : Nat)) h') : CallsH Try.prog 42 #[v, rwA (rnP x)] h K ⟨⟩ := by
  refine n42_calls ?_
  unfold n42 rwA rnP
  obtain ⟨ad, c, rfl, hc⟩ := Rns.form a
  have hl := a.few
  simp only [List.length_map] at hl
  have hO := overR_le x L
  simp (disch := omega)
  refine (⟨_, rfl⟩ : ∃ f, f = h.push (.cells #[.int .i64 (x.at_ : Nat), .int .i64 (x.len : Nat)] runT)).elim fun g0 eg0 => ?_
  have e0 : Ext h g0 := by rw [eg0]; exact (by repeat' (first | (with_reducible exact Ext.refl _) | (with_reducible assumption) | (with_reducible refine push_ext ?_) | (with_reducible refine hset_ext ?_ ?_) | (with_reducible refine Ext.trans ?_ (by assumption)) | omega | (simp; done) | (simp; omega) | (refine Ext.size ?_) | (refine Nat.le_succ_of_le (Ext.size ?_))))
  have B0 : g0[h.size]? = some (.cells #[.int .i64 (x.at_ : Nat), .int .i64 (x.len : Nat)] runT) := by rw [eg0]; exact get_pushed rfl
  rw [show h.push (.cells #[.int .i64 (x.at_ : Nat), .int .i64 (x.len : Nat)] 24) = g0 from eg0.symm]
  clear eg0
  have d0 := cellOf (i := 0) B0 rfl
  have d1 := cellOf (i := 1) B0 rfl
  refine loopX2 (α := Nat) (fun i => .int .i64 (overR x (L.take i) : Nat)) (fun i => .int .i64 i) (fun i g => Ext g0 g ∧ i ≤ L.length) (fun i => L.length - i) 0 ⟨by simp [overR], by simp⟩ ⟨.refl _, by omega⟩ ?_
  rintro i g ⟨e1, hi⟩ X hX
  by_cases hin : i < L.length
  · obtain ⟨ad', c', hv, -, c0, c1⟩ := Rns.cell (a.ext (e0.trans e1)) hin
    obtain ⟨rfl, -⟩ : ad = some ad' ∧ c = c' := by cases hv; exact ⟨rfl, rfl⟩
    have h1 := overR_take (x := x) hin
    have h2 := overR_take_le x L (i + 1)
    have hy := hf _ (List.getElem_mem hin)
    have f0 := hcell_ext e1 d0
    have f1 := hcell_ext e1 d1
    have hsz : h.size < g.size := get_some_lt ((e1.block _ (get_some_lt B0)).trans B0)
    unfold Rn.en at hx hy
    simp (disch := omega) [c0, c1, f0, f1, Hp_max2, Hp_min2]
    refine hX (i + 1) _ _ _ ?_ (by simp) ⟨e1.trans (by repeat' (first | (with_reducible exact Ext.refl _) | (with_reducible assumption) | (with_reducible refine push_ext ?_) | (with_reducible refine hset_ext ?_ ?_) | (with_reducible refine Ext.trans ?_ (by assumption)) | omega | (simp; done) | (simp; omega) | (refine Ext.size ?_) | (refine Nat.le_succ_of_le (Ext.size ?_)))), hin⟩ (by omega)
    rw [h1]
    congr 1
    unfold meet Rn.en
    push_cast
    (repeat' split) <;> omega
  · simp (disch := omega)
    rw [List.take_of_length_le (by omega)]
    exact H _ (e0.trans e1)
end Go.Proofs.Ytgcllbelgakjgaa
set_option linter.unusedSimpArgs false
set_option linter.unusedVariables false
namespace Go.Proofs.Ytgcllbelgakjgaa
open Go.Vc Go.Sort
variable {K : Value → Heap → Prop} {h : Heap}

/-! ### Sorted -/
abbrev RnA := {x : Rn // x.at_ ≤ 72057594037927936}
instance : Inhabited RnA := ⟨⟨⟨0, 0⟩, by simp⟩⟩
def cmpR (x y : RnA) : Int := if x.1.at_ < y.1.at_ then -1 else if y.1.at_ < x.1.at_ then 1 else 0
theorem cmpR_neg {x y : RnA} : cmpR x y < 0 ↔ x.1.at_ < y.1.at_ := by
  unfold cmpR
  split
  · omega
  · split <;> omega
theorem swo_cmpR : SWO (ltC cmpR) := by
  refine ⟨fun x => ?_, fun x y z => ?_, fun x y z => ?_⟩ <;> unfold ltC
  · simp [cmpR]
  · simp only [decide_eq_true_eq, cmpR_neg]; omega
  · simp only [decide_eq_false_iff_not, cmpR_neg]; omega
def pqR (x : RnA) : Int × Int := rnP x.1
theorem list_ok {b : Nat} : CmpOk2 Try.prog (.func (.func 55) #[] #[]) b h (val2 pqR) cmpR := by
  intro x y g K m H
  refine InvokeH_f2 (by kernel_rfl) ?_
  refine n55_calls ?_
  unfold n55 val2 pqR rnP
  have hx := x.2
  have hy := y.2
  simp (disch := omega) [Hp_max2, Hp_min2]
  have e : (if (if -1 < (x.1.at_ : Int) - (y.1.at_ : Int) then (x.1.at_ : Int) - (y.1.at_ : Int) else -1) < 1 then if -1 < (x.1.at_ : Int) - (y.1.at_ : Int) then (x.1.at_ : Int) - (y.1.at_ : Int) else -1 else 1) = cmpR x y := by
    unfold cmpR
    (repeat' split) <;> omega
  rw [e]
  exact H _ (by repeat' (first | (with_reducible exact Ext.refl _) | (with_reducible assumption) | (with_reducible refine push_ext ?_) | (with_reducible refine hset_ext ?_ ?_) | (with_reducible refine Ext.trans ?_ (by assumption)) | omega | (simp; done) | (simp; omega) | (refine Ext.size ?_) | (refine Nat.le_succ_of_le (Ext.size ?_))))
theorem together_ok {b : Nat} : CmpOk2 Try.prog (.func (.func 56) #[] #[]) b h (val2 pqR) cmpR := by
  intro x y g K m H
  refine InvokeH_f2 (by kernel_rfl) ?_
  refine n56_calls ?_
  unfold n56 val2 pqR rnP
  have hx := x.2
  have hy := y.2
  simp (disch := omega) [Hp_max2, Hp_min2]
  have e : (if (if -1 < (x.1.at_ : Int) - (y.1.at_ : Int) then (x.1.at_ : Int) - (y.1.at_ : Int) else -1) < 1 then if -1 < (x.1.at_ : Int) - (y.1.at_ : Int) then (x.1.at_ : Int) - (y.1.at_ : Int) else -1 else 1) = cmpR x y := by
    unfold cmpR
    (repeat' split) <;> omega
  rw [e]
  exact H _ (by repeat' (first | (with_reducible exact Ext.refl _) | (with_reducible assumption) | (with_reducible refine push_ext ?_) | (with_reducible refine hset_ext ?_ ?_) | (with_reducible refine Ext.trans ?_ (by assumption)) | omega | (simp; done) | (simp; omega) | (refine Ext.size ?_) | (refine Nat.le_succ_of_le (Ext.size ?_))))
/-- Runs as elements of the sort. -/
def liftR : (L : List Rn) → Fit L → List RnA
  | [], _ => []
  | x :: L, hf => ⟨x, (hf x (by simp)).1⟩ :: liftR L (fun y hy => hf y (List.mem_cons_of_mem _ hy))
theorem liftR_map : ∀ (L : List Rn) (hf : Fit L), (liftR L hf).map (·.1) = L
  | [], _ => rfl
  | x :: L, hf => congrArg (x :: ·) (liftR_map L (fun y hy => hf y (List.mem_cons_of_mem _ hy)))
theorem pq_cells (L : List RnA) : L.flatMap (cell2 pqR) = (L.map (·.1)).flatMap (cell2 rnP) := by
  induction L with | nil => rfl | cons x L ih => rw [List.flatMap_cons, List.map_cons, List.flatMap_cons, ih]; rfl
/-- In order of where they begin. -/
def Rise (L : List Rn) : Prop := L.Pairwise (fun x y => x.at_ ≤ y.at_)
theorem list_sort {L : List Rn} {v : Value} (hv : OwnT runT 2 h v (L.flatMap (cell2 rnP))) (hf : Fit L) (hl : L.length < 100000)
    (H : ∀ h' L', L'.Perm L → Rise L' → OwnT runT 2 h' v (L'.flatMap (cell2 rnP)) → Mod (fun b => blkV v = some b) h h' → K (.tuple #[]) h') :
    CallsH Try.prog 54 #[v, .func (.func 55) #[] #[]] h K ⟨⟩ := by
  have e := liftR_map L hf
  have ll : (liftR L hf).length = L.length := by conv => rhs; rw [← e]; simp
  have hv2 : OwnT runT 2 h v ((liftR L hf).flatMap (cell2 pqR)) := by rw [pq_cells, e]; exact hv
  refine sortR_c hv2 (by omega) (fun b hb => list_ok) trivial swo_cmpR fun h' L' hp ha ho hm => ?_
  refine H h' (L'.map (·.1)) ?_ ?_ ?_ hm
  · rw [← e]; exact hp.map _
  · unfold Rise
    rw [List.pairwise_map]
    refine List.Pairwise.imp (fun {x y} hxy => ?_) ha
    unfold ltC at hxy
    simp only [decide_eq_false_iff_not, cmpR_neg] at hxy
    omega
  · rw [← pq_cells]; exact ho
theorem together_sort {L : List Rn} {v : Value} (hv : OwnT runT 2 h v (L.flatMap (cell2 rnP))) (hf : Fit L) (hl : L.length < 100000)
    (H : ∀ h' L', L'.Perm L → Rise L' → OwnT runT 2 h' v (L'.flatMap (cell2 rnP)) → Mod (fun b => blkV v = some b) h h' → K (.tuple #[]) h') :
    CallsH Try.prog 54 #[v, .func (.func 56) #[] #[]] h K ⟨⟩ := by
  have e := liftR_map L hf
  have ll : (liftR L hf).length = L.length := by conv => rhs; rw [← e]; simp
  have hv2 : OwnT runT 2 h v ((liftR L hf).flatMap (cell2 pqR)) := by rw [pq_cells, e]; exact hv
  refine sortR_c hv2 (by omega) (fun b hb => together_ok) trivial swo_cmpR fun h' L' hp ha ho hm => ?_
  refine H h' (L'.map (·.1)) ?_ ?_ ?_ hm
  · rw [← e]; exact hp.map _
  · unfold Rise
    rw [List.pairwise_map]
    refine List.Pairwise.imp (fun {x y} hxy => ?_) ha
    unfold ltC at hxy
    simp only [decide_eq_false_iff_not, cmpR_neg] at hxy
    omega
  · rw [← pq_cells]; exact ho

/-! ### One more behind -/
theorem Hp_appR {m : Nat} {v : Value} {L : List Rn} {x : Rn} (hm : m = h.size) (ho : OwnT runT 2 h v (L.flatMap (cell2 rnP))) (hl : L.length < 1000000)
    (H : ∀ v' h', OwnT runT 2 h' v' ((L ++ [x]).flatMap (cell2 rnP)) → Mod (fun b => blkV v = some b) h h' → (∀ b, blkV v' = some b → blkV v = some b ∨ h.size ≤ b) → K v' h') :
    Hp Try.prog false (Go.Builtin.append_ #[22, 22] 22 #[v, .slice (some ⟨m, 0, none⟩) 1 1]) K (h.push (.cells #[.int .i64 (x.at_ : Nat), .int .i64 (x.len : Nat)] runT)) ⟨⟩ := by
  subst hm
  have hbs : Ext h (h.push (.cells #[.int .i64 (x.at_ : Nat), .int .i64 (x.len : Nat)] runT)) := (by repeat' (first | (with_reducible exact Ext.refl _) | (with_reducible assumption) | (with_reducible refine push_ext ?_) | (with_reducible refine hset_ext ?_ ?_) | (with_reducible refine Ext.trans ?_ (by assumption)) | omega | (simp; done) | (simp; omega) | (refine Ext.size ?_) | (refine Nat.le_succ_of_le (Ext.size ?_))))
  refine Hp_appendT (e := runT) (s := 2) (by_ := 16) (n := L.length) (k := 1) (news := [.int .i64 (x.at_ : Nat), .int .i64 (x.len : Nat)]) (by kernel_rfl) (by kernel_rfl) (ho.ext hbs) (cell2_len L) (by omega) (Src_new (vs := [.int .i64 (x.at_ : Nat), .int .i64 (x.len : Nat)]) rfl) (by simp [one]) (by omega) (by omega) fun v' h3 hO hM hF _ => ?_
  refine H v' h3 ?_ ((Mod.of_ext hbs).trans hM (fun _ _ e => e)) (fun b hb => (hF b hb).imp (fun e => e) (fun e => by simp at e; omega))
  rw [List.flatMap_append]
  exact hO

/-! ### Put together -/
theorem joinR_snoc (y x : Rn) : ∀ A : List Rn, joinR (A ++ [y]) x = if x.at_ ≤ y.en then A ++ [⟨y.at_, max y.len (x.en - y.at_)⟩] else A ++ [y, x]
  | [] => by simp [joinR]
  | [a] => by
    simp only [List.cons_append, List.nil_append, joinR]
    split <;> rfl
  | a :: b :: A => by
    have := joinR_snoc y x (b :: A)
    simp only [List.cons_append] at this ⊢
    rw [joinR]
    · rw [this]; split <;> rfl
    · simp
theorem cell2_setlen (A : List Rn) (y : Rn) (n : Nat) : ((A ++ [y]).flatMap (cell2 rnP)).set (A.length * 2 + 1) (.int .i64 (n : Nat)) = (A ++ [(⟨y.at_, n⟩ : Rn)]).flatMap (cell2 rnP) := by
  have hl := cell2_len (pq := rnP) A
  rw [List.flatMap_append, List.flatMap_append, List.set_append_right _ _ (by omega), hl, Nat.add_sub_cancel_left]
  rfl
theorem joinR_fit {L : List Rn} {x : Rn} (hf : Fit L) (hx : x.at_ ≤ 72057594037927936 ∧ x.en ≤ 72057594037927936) : Fit (joinR L x) := by
  rcases List.eq_nil_or_concat L with rfl | ⟨A, y, rfl⟩
  · intro z hz; simp [joinR] at hz; subst hz; exact hx
  · rw [List.concat_eq_append] at *
    rw [joinR_snoc]
    have hy := hf y (by simp)
    intro z hz
    split at hz
    · rcases List.mem_append.1 hz with hz | hz
      · exact hf z (by simp [hz])
      · simp at hz; subst hz
        unfold Rn.en at *
        dsimp only; omega
    · rcases List.mem_append.1 hz with hz | hz
      · exact hf z (by simp [hz])
      · simp at hz
        rcases hz with rfl | rfl
        · exact hy
        · exact hx
theorem joinR_len {L : List Rn} {x : Rn} : (joinR L x).length ≤ L.length + 1 := by
  rcases List.eq_nil_or_concat L with rfl | ⟨A, y, rfl⟩
  · simp [joinR]
  · rw [List.concat_eq_append, joinR_snoc]
    split <;> simp
theorem foldl_fit : ∀ {M acc : List Rn}, Fit acc → Fit M → Fit (M.foldl joinR acc)
  | [], acc, h, _ => h
  | x :: M, acc, h, hm => by
    rw [List.foldl_cons]
    exact foldl_fit (joinR_fit h (hm x (by simp))) (fun y hy => hm y (List.mem_cons_of_mem _ hy))
end Go.Proofs.Ytgcllbelgakjgaa
set_option linter.unusedSimpArgs false
set_option linter.unusedVariables false
namespace Go.Proofs.Ytgcllbelgakjgaa
open Go.Vc Go.Sort
variable {K : Value → Heap → Prop} {h : Heap}

theorem own_len {v : Value} {L : List Rn} {a : Option Addr} {n c : Nat} (o : OwnT runT 2 h (.slice a n c) (L.flatMap (cell2 rnP))) : n = L.length ∧ n ≤ c ∧ (L ≠ [] → ∃ b, a = some ⟨b, 0, none⟩) := by
  obtain ⟨a', n', c', e, hn, hc, hne⟩ := o.form (by omega)
  cases e
  rw [cell2_len] at hn
  refine ⟨by omega, hc, fun hL => hne fun e => ?_⟩
  have := cell2_len (pq := rnP) L
  rw [e] at this
  simp at this
  exact hL (List.length_eq_zero_iff.1 (by omega))

set_option maxHeartbeats 2000000 in
theorem together_c {v : Value} {L : List Rn} (hv : OwnT runT 2 h v (L.flatMap (cell2 rnP))) (hf : Fit L) (hp : ∀ x ∈ L, 0 < x.len) (hl : L.length < 100000)
    (H : ∀ h' v' R, Vc.Can R → (∀ p, Cov R p ↔ Cov L p) → Fit R → R.length ≤ L.length → OwnT runT 2 h' v' (R.flatMap (cell2 rnP)) → Mod (fun b => blkV v = some b) h h' → (∀ b, blkV v' = some b → h.size ≤ b) → K v' h') :
    CallsH Try.prog 36 #[v] h K ⟨⟩ := by
  refine n36_calls ?_
  unfold n36
  refine together_sort hv hf hl fun h1 L' hperm hr o1 m1 => ?_
  have hl' := hperm.length_eq
  have hf' : Fit L' := fun x hx => hf x (hperm.mem_iff.1 hx)
  have hp' : ∀ x ∈ L', 0 < x.len := fun x hx => hp x (hperm.mem_iff.1 hx)
  obtain ⟨va, vn, vc, rfl, -, -, -⟩ := o1.form (by omega)
  obtain ⟨rfl, hvc, -⟩ := own_len (v := .pointer none) o1
  have rv := Rns.of o1 (by omega) hf'
  have z1 := m1.size
  simp (disch := omega)
  refine loopX2 (α := Nat × Value) (fun a => a.2) (fun a => .int .i64 a.1) (fun a g => a.1 ≤ L'.length ∧ Ext h1 g ∧ OwnT runT 2 g a.2 (((L'.take a.1).foldl joinR []).flatMap (cell2 rnP)) ∧ (∀ b, blkV a.2 = some b → h1.size ≤ b) ∧ ((L'.take a.1).foldl joinR []).length ≤ a.1) (fun a => L'.length - a.1) (0, .slice none 0 0) ⟨rfl, rfl⟩ ⟨by simp, .refl _, by simpa using OwnT.nil, (fun b hb => by cases hb), by simp⟩ ?_
  rintro ⟨i, w⟩ g ⟨hi, eg, ow, fw, hal⟩ X hX
  dsimp only at hi eg ow fw hal hX ⊢
  by_cases hin : i < L'.length
  · obtain ⟨ad, c', hv', -, c0, c1⟩ := Rns.cell (rv.ext eg) hin
    obtain ⟨rfl, -⟩ : va = some ad ∧ vc = c' := by cases hv'; exact ⟨rfl, rfl⟩
    have htk : (L'.take (i + 1)).foldl joinR [] = joinR ((L'.take i).foldl joinR []) L'[i] := by
      rw [List.take_succ_eq_append_getElem hin, List.foldl_append]; rfl
    have hfa : Fit ((L'.take i).foldl joinR []) := foldl_fit (fun x hx => by cases hx) (fun x hx => hf' x (List.mem_of_mem_take hx))
    have hfx := hf' _ (List.getElem_mem hin)
    generalize (L'.take i).foldl joinR [] = acc at htk ow hfa hal
    obtain ⟨wa, wn, wc, rfl, -, -, -⟩ := ow.form (by omega)
    obtain ⟨rfl, hwc, hwne⟩ := own_len (v := .pointer none) ow
    simp (disch := omega)
    refine JoinN.mk ?_
    refine JoinN.mk ?_
    generalize L'[i] = x at *
    have zg := eg.size
    rcases List.eq_nil_or_concat acc with rfl | ⟨A, y, rfl⟩
    · simp (disch := omega) [c0, c1]
      refine (⟨_, rfl⟩ : ∃ f, f = hset (hset (Array.push g (.cells #[.int .i64 0, .int .i64 0] runT)) ⟨g.size, 0, none⟩ (.int .i64 (x.at_ : Nat))) ⟨g.size, 1, none⟩ (.int .i64 (x.len : Nat))).elim fun g0 eg0 => ?_
      have e0 : Ext g g0 := by rw [eg0]; exact (by repeat' (first | (with_reducible exact Ext.refl _) | (with_reducible assumption) | (with_reducible refine push_ext ?_) | (with_reducible refine hset_ext ?_ ?_) | (with_reducible refine Ext.trans ?_ (by assumption)) | omega | (simp; done) | (simp; omega) | (refine Ext.size ?_) | (refine Nat.le_succ_of_le (Ext.size ?_))))
      have zz : g0.size = g.size + 1 := by rw [eg0]; simp
      rw [show hset (hset (Array.push g (.cells #[.int .i64 0, .int .i64 0] 24)) ⟨g.size, 0, none⟩ (.int .i64 (x.at_ : Nat))) ⟨g.size, 1, none⟩ (.int .i64 (x.len : Nat)) = g0 from eg0.symm]
      clear eg0
      refine Hp_appR (L := []) (x := x) (by omega) (ow.ext e0) (by simp) fun v4 h4 o4 m4 f4 => ?_
      simp (disch := omega)
      refine hX (i + 1, v4) _ _ _ rfl (by simp) ⟨hin, m4.ext_from (eg.trans e0) (fun b hb e => by have := fw b e; omega), ?_, fun b hb => (f4 b hb).elim (fw b) (fun e => by omega), ?_⟩ (by dsimp only; omega)
      · dsimp only; rw [htk]; exact o4
      · dsimp only; rw [htk]; exact Nat.le_trans joinR_len (by simp)
    · rw [List.concat_eq_append] at *
      obtain ⟨wb, rfl⟩ := hwne (by simp)
      have hwb := fw wb rfl
      have hwl : wb < g.size := ow.lt rfl
      have hAl : (A ++ [y]).length = A.length + 1 := by simp
      have d := cell2_get (pq := rnP) (A ++ [y]) A.length (by simp)
      have hcl := cell2_len (pq := rnP) (A ++ [y])
      have d0 := ow.cell (i := A.length * 2) (by omega)
      have d1 := ow.cell (i := A.length * 2 + 1) (by omega)
      rw [List.getElem?_eq_getElem (by omega), List.getElem?_eq_getElem (by omega)] at d
      rw [Option.some.inj d.1] at d0
      rw [Option.some.inj d.2] at d1
      have hgy : (A ++ [y])[A.length]'(by simp) = y := by simp
      rw [hgy] at d0 d1
      unfold rnP at d0 d1
      have hfy := hfa y (by simp)
      rw [joinR_snoc] at htk
      unfold Rn.en at hfx hfy
      by_cases hm : x.at_ ≤ y.en
      · rw [if_pos hm] at htk
        unfold Rn.en at hm
        simp (disch := omega) [c0, c1, elt_mk, d0.1, d1.1, d1.2, Hp_max2]
        refine (⟨_, rfl⟩ : ∃ f, f = hset (hset (Array.push g (.cells #[.int .i64 0, .int .i64 0] runT)) ⟨g.size, 0, none⟩ (.int .i64 (x.at_ : Nat))) ⟨g.size, 1, none⟩ (.int .i64 (x.len : Nat))).elim fun g0 eg0 => ?_
        have e0 : Ext g g0 := by rw [eg0]; exact (by repeat' (first | (with_reducible exact Ext.refl _) | (with_reducible assumption) | (with_reducible refine push_ext ?_) | (with_reducible refine hset_ext ?_ ?_) | (with_reducible refine Ext.trans ?_ (by assumption)) | omega | (simp; done) | (simp; omega) | (refine Ext.size ?_) | (refine Nat.le_succ_of_le (Ext.size ?_))))
        rw [show hset (hset (Array.push g (.cells #[.int .i64 0, .int .i64 0] 24)) ⟨g.size, 0, none⟩ (.int .i64 (x.at_ : Nat))) ⟨g.size, 1, none⟩ (.int .i64 (x.len : Nat)) = g0 from eg0.symm]
        clear eg0
        have o5 := (ow.ext e0).set (i := A.length * 2 + 1) (by omega) (u := .int .i64 ((max y.len (x.at_ + x.len - y.at_) : Nat) : Int))
        rw [cell2_setlen] at o5
        have hmx : (if (y.len : Int) < (x.at_ : Int) + (x.len : Int) - (y.at_ : Int) then (x.at_ : Int) + (x.len : Int) - (y.at_ : Int) else (y.len : Int)) = ((max y.len (x.at_ + x.len - y.at_) : Nat) : Int) := by split <;> omega
        rw [hmx]
        have m5 := Mod.set g0 ⟨wb, A.length * 2 + 1, none⟩ (.int .i64 ((max y.len (x.at_ + x.len - y.at_) : Nat) : Int))
        have e9 : (A ++ [(⟨y.at_, max y.len (x.at_ + x.len - y.at_)⟩ : Rn)]).length = A.length + 1 := by simp
        refine hX (i + 1, .slice (some ⟨wb, 0, none⟩) (A.length + 1) wc) _ _ _ rfl (by simp) ⟨hin, m5.ext_from (eg.trans e0) (fun b hb e => by have e' : b = wb := e; omega), ?_, fun b hb => (by cases hb; exact hwb), ?_⟩ (by dsimp only; omega)
        · dsimp only; rw [htk]; exact hAl ▸ o5
        · dsimp only; rw [htk]; exact Nat.le_trans (Nat.le_of_eq e9) (by simp at hal; omega)
      · rw [if_neg hm] at htk
        unfold Rn.en at hm
        simp (disch := omega) [c0, c1, elt_mk, d0.1, d1.1, d1.2]
        refine (⟨_, rfl⟩ : ∃ f, f = hset (hset (Array.push g (.cells #[.int .i64 0, .int .i64 0] runT)) ⟨g.size, 0, none⟩ (.int .i64 (x.at_ : Nat))) ⟨g.size, 1, none⟩ (.int .i64 (x.len : Nat))).elim fun g0 eg0 => ?_
        have e0 : Ext g g0 := by rw [eg0]; exact (by repeat' (first | (with_reducible exact Ext.refl _) | (with_reducible assumption) | (with_reducible refine push_ext ?_) | (with_reducible refine hset_ext ?_ ?_) | (with_reducible refine Ext.trans ?_ (by assumption)) | omega | (simp; done) | (simp; omega) | (refine Ext.size ?_) | (refine Nat.le_succ_of_le (Ext.size ?_))))
        have zz : g0.size = g.size + 1 := by rw [eg0]; simp
        rw [show hset (hset (Array.push g (.cells #[.int .i64 0, .int .i64 0] 24)) ⟨g.size, 0, none⟩ (.int .i64 (x.at_ : Nat))) ⟨g.size, 1, none⟩ (.int .i64 (x.len : Nat)) = g0 from eg0.symm]
        clear eg0
        refine Hp_appR (L := A ++ [y]) (x := x) (by omega) (hAl ▸ ow.ext e0) (by omega) fun v4 h4 o4 m4 f4 => ?_
        simp (disch := omega)
        refine hX (i + 1, v4) _ _ _ rfl (by simp) ⟨hin, m4.ext_from (eg.trans e0) (fun b hb e => by have := fw b e; omega), ?_, fun b hb => (f4 b hb).elim (fun e => fw b e) (fun e => by omega), ?_⟩ (by dsimp only; omega)
        · dsimp only; rw [htk]; simpa using o4
        · dsimp only; rw [htk]; simp at hal ⊢; omega
  · obtain rfl : i = L'.length := by omega
    rw [List.take_length] at ow hal
    obtain ⟨q1, q2⟩ := together_can (l := L') (acc := []) trivial hp' hr (fun y hy => by cases hy)
    simp (disch := omega)
    refine H g w _ q1 (fun p => ?_) (foldl_fit (fun x hx => by cases hx) hf') (by omega) ow (Mod.extIn m1 eg) (fun b hb => by have := fw b hb; omega)
    rw [q2]
    have h9 : ∀ p, Cov L' p ↔ Cov L p := fun p => by
      unfold Cov
      exact ⟨fun ⟨x, hx, h⟩ => ⟨x, hperm.mem_iff.1 hx, h⟩, fun ⟨x, hx, h⟩ => ⟨x, hperm.mem_iff.2 hx, h⟩⟩
    rw [h9]
    exact ⟨fun e => e.resolve_left Cov.nil, .inr⟩
end Go.Proofs.Ytgcllbelgakjgaa
set_option linter.unusedSimpArgs false
set_option linter.unusedVariables false
namespace Go.Proofs.Ytgcllbelgakjgaa
open Go.Vc Go.Sort
variable {K : Value → Heap → Prop} {h : Heap}

theorem grow0_c {n : Nat} (hn : n < 1000000) (H : ∀ v h', OwnT runT 2 h' v [] → Ext h h' → (∀ b, blkV v = some b → h.size ≤ b) → K v h') : CallsH Try.prog 57 #[.slice none 0 0, .int .i64 n] h K ⟨⟩ := by
  refine n57_calls ?_
  unfold n57
  refine JoinN.mk ?_
  simp (disch := omega)
  refine JoinN.mk ?_
  have hcp := fun (q : Bool) (K : Value → Heap → Prop) (h : Heap) => Hp_cap (P := Try.prog) (q := q) (t := 22) (ty := 3) (a := none) (n := 0) (c := 0) (K := K) (h := h) (by kernel_rfl)
  by_cases h0 : n = 0
  · subst h0
    simp (disch := omega) [hcp]
    exact H _ h .nil (.refl _) (fun b hb => by cases hb)
  · simp (disch := omega) [hcp]
    rw [Hp_slgNH (s := 2) (a := none) (len := 0) (hi := 0) (cap := 0) (by kernel_rfl) (by omega) (by omega)]
    simp (disch := omega)
    refine Hp_appendZN (k := n) (e := runT) (s := 2) (by_ := 16) (by kernel_rfl) (by kernel_rfl) (by omega) (by omega) (by omega) (by omega) fun c h' rest hc eh hr => ?_
    simp (disch := omega)
    refine H _ h' (.inr ⟨h.size, 0, c, rest, rfl, rfl, Nat.zero_le _, by rw [eh]; exact get_pushed rfl, hr⟩) (by rw [eh]; exact (by repeat' (first | (with_reducible exact Ext.refl _) | (with_reducible assumption) | (with_reducible refine push_ext ?_) | (with_reducible refine hset_ext ?_ ?_) | (with_reducible refine Ext.trans ?_ (by assumption)) | omega | (simp; done) | (simp; omega) | (refine Ext.size ?_) | (refine Nat.le_succ_of_le (Ext.size ?_))))) (fun b hb => by cases hb; exact Nat.le_refl _)
set_option maxHeartbeats 1000000 in
theorem concat_c {q : Nat} {v1 v2 : Value} {l1 l2 : List (Int × Int)} (hq : h[q]? = some (.cells #[v1, v2] 22)) (a1 : Rws h v1 l1) (a2 : Rws h v2 l2) (hl1 : l1.length < 100000) (hl2 : l2.length < 100000)
    (H : ∀ v h', OwnT runT 2 h' v ((l1 ++ l2).flatMap rwV) → Ext h h' → (∀ b, blkV v = some b → h.size ≤ b) → K v h') :
    CallsH Try.prog 37 #[.slice (some ⟨q, 0, none⟩) 2 2] h K ⟨⟩ := by
  refine n37_calls ?_
  unfold n37
  simp (disch := omega)
  obtain ⟨p1, c1, rfl, hc1⟩ := a1.form
  obtain ⟨p2, c2, rfl, hc2⟩ := a2.form
  have q0 := cellOf (i := 0) hq rfl
  have q1 := cellOf (i := 1) hq rfl
  refine loopX2 (α := Nat) (fun i => .int .i64 ((if i = 0 then 0 else if i = 1 then l1.length else l1.length + l2.length : Nat) : Int)) (fun i => .int .i64 i) (fun i g => g = h ∧ i ≤ 2) (fun i => 2 - i) 0 ⟨rfl, rfl⟩ ⟨rfl, by omega⟩ ?_
  rintro i g ⟨rfl, hi⟩ X hX
  have h3 : i = 0 ∨ i = 1 ∨ i = 2 := by omega
  rcases h3 with rfl | rfl | rfl
  · simp (disch := omega)
    refine JoinN.mk ?_
    refine JoinN.mk ?_
    simp (disch := omega) [q0, elt_mk]
    exact hX 1 _ _ _ (by simp) (by simp) ⟨rfl, by omega⟩ (by omega)
  · simp (disch := omega)
    refine JoinN.mk ?_
    refine JoinN.mk ?_
    simp (disch := omega) [q1, elt_mk]
    exact hX 2 _ _ _ (by simp) (by simp) ⟨rfl, by omega⟩ (by omega)
  · simp (disch := omega)
    have e9 : ((l1.length : Int) + (l2.length : Int)) = ((l1.length + l2.length : Nat) : Int) := by omega
    rw [e9]
    refine grow0_c (by omega) fun v3 h3 o3 e3 f3 => ?_
    simp (disch := omega)
    refine loopX2 (α := Nat × Value) (fun a => a.2) (fun a => .int .i64 a.1) (fun a g' => a.1 ≤ 2 ∧ Ext g g' ∧ OwnT runT 2 g' a.2 ((if a.1 = 0 then [] else if a.1 = 1 then l1 else l1 ++ l2).flatMap rwV) ∧ ∀ b, blkV a.2 = some b → g.size ≤ b) (fun a => 2 - a.1) (0, v3) ⟨rfl, rfl⟩ ⟨by simp, e3, by simpa using o3, f3⟩ ?_
    rintro ⟨i, w⟩ g4 ⟨hi, e4, o4, f4⟩ X hX
    dsimp only at hi e4 o4 f4 hX ⊢
    have z4 := e4.size
    have h3 : i = 0 ∨ i = 1 ∨ i = 2 := by omega
    rcases h3 with rfl | rfl | rfl
    · have q0 := hcell_ext e4 q0
      simp (disch := omega) [q0, elt_mk]
      refine Hp_appendT (e := runT) (s := 2) (by_ := 16) (n := 0) (k := l1.length) (news := l1.flatMap rwV) (by kernel_rfl) (by kernel_rfl) o4 (by simp) (by omega) (a1.src.ext e4) (rwV_one _) (by omega) (by omega) fun v5 h5 o5 m5 f5 _ => ?_
      simp (disch := omega)
      exact hX (1, v5) _ _ _ rfl (by simp) ⟨by simp, m5.ext_from e4 (fun b hb e => by have := f4 b e; omega), by simpa using o5, fun b hb => (f5 b hb).elim (f4 b) (fun e => by omega)⟩ (by simp)
    · have q1 := hcell_ext e4 q1
      simp only [Nat.one_ne_zero, if_false, if_true] at o4
      simp (disch := omega) [q1, elt_mk]
      refine Hp_appendT (e := runT) (s := 2) (by_ := 16) (n := l1.length) (k := l2.length) (news := l2.flatMap rwV) (by kernel_rfl) (by kernel_rfl) o4 (rwV_len _) (by omega) (a2.src.ext e4) (rwV_one _) (by omega) (by omega) fun v5 h5 o5 m5 f5 _ => ?_
      simp (disch := omega)
      refine hX (2, v5) _ _ _ rfl (by simp) ⟨by simp, m5.ext_from e4 (fun b hb e => by have := f4 b e; omega), ?_, fun b hb => (f5 b hb).elim (f4 b) (fun e => by omega)⟩ (by simp)
      have : (l1 ++ l2).flatMap rwV = l1.flatMap rwV ++ l2.flatMap rwV := List.flatMap_append
      simpa [this] using o5
    · simp (disch := omega)
      exact H w g4 (by simpa using o4) e4 f4
theorem equal_c {v w : Value} {L M : List Rn} (a : Rns h v L) (b : Rns h w M) (H : K (.bool (decide (L = M))) h) : CallsH Try.prog 43 #[v, w] h K ⟨⟩ := by
  refine n43_calls ?_
  unfold n43
  obtain ⟨pa, ca, rfl, hca⟩ := Rns.form a
  obtain ⟨pb, cb, rfl, hcb⟩ := Rns.form b
  have la := a.few
  have lb := b.few
  simp only [List.length_map] at la lb
  by_cases hl : L.length = M.length
  · simp (disch := omega) [hl]
    refine loopX1 (fun i : Nat => .int .i64 i) (fun i g => g = h ∧ i ≤ M.length ∧ L.take i = M.take i) (fun i => M.length - i) 0 rfl ⟨rfl, by omega, by simp⟩ ?_
    rintro i g ⟨rfl, hi, heq⟩ X hX
    by_cases hin : i < M.length
    · obtain ⟨ad, c', hv', -, c0, c1⟩ := Rns.cell a (i := i) (by omega)
      obtain ⟨rfl, -⟩ : pa = some ad ∧ ca = c' := by cases hv'; exact ⟨rfl, rfl⟩
      obtain ⟨bd, d', hw', -, d0, d1⟩ := Rns.cell b hin
      obtain ⟨rfl, -⟩ : pb = some bd ∧ cb = d' := by cases hw'; exact ⟨rfl, rfl⟩
      have hiL : i < L.length := by omega
      by_cases he : L[i] = M[i]
      · have h1 : L[i].at_ = M[i].at_ := by rw [he]
        have h2 : L[i].len = M[i].len := by rw [he]
        rw [h1] at c0
        rw [h2] at c1
        simp (disch := omega) [c0, c1, d0, d1, hl]
        refine hX (i + 1) _ _ (by simp) ⟨rfl, hin, ?_⟩ (by omega)
        rw [List.take_succ_eq_append_getElem hiL, List.take_succ_eq_append_getElem hin, heq, he]
      · have hne : ¬ L = M := fun e => he (by subst e; rfl)
        rw [decide_eq_false hne] at H
        simp (disch := omega) [c0, c1, d0, d1, hl]
        refine Split.mk (fun e => ?_) (fun _ => ?_)
        · refine absurd ?_ he
          have e1 := e.1
          have e2 := e.2
          generalize L[i] = x at *
          generalize M[i] = y at *
          cases x; cases y
          simp only [Rn.mk.injEq]
          dsimp only at e1 e2
          omega
        · simp (disch := omega)
          exact H
    · have : L = M := by
        have e1 : L.take i = L := List.take_of_length_le (by omega)
        have e2 : M.take i = M := List.take_of_length_le (by omega)
        rw [← e1, heq, e2]
      rw [decide_eq_true this] at H
      simp (disch := omega) [hl]
      exact H
  · have hne : ¬ L = M := fun e => hl (by rw [e])
    rw [decide_eq_false hne] at H
    simp (disch := omega)
    exact H
theorem refSame_c {v w : Value} {L M : List Rn} (a : Rns h v L) (b : Rns h w M) (H : K (.bool (decide (L = M))) h) : CallsH Try.prog 27 #[v, w] h K ⟨⟩ := by
  refine n27_calls ?_
  unfold n27
  obtain ⟨pa, ca, rfl, hca⟩ := Rns.form a
  obtain ⟨pb, cb, rfl, hcb⟩ := Rns.form b
  have la := a.few
  have lb := b.few
  simp only [List.length_map] at la lb
  by_cases hl : L.length = M.length
  · simp (disch := omega) [hl]
    refine loopX1 (fun i : Nat => .int .i64 i) (fun i g => g = h ∧ i ≤ M.length ∧ L.take i = M.take i) (fun i => M.length - i) 0 rfl ⟨rfl, by omega, by simp⟩ ?_
    rintro i g ⟨rfl, hi, heq⟩ X hX
    by_cases hin : i < M.length
    · obtain ⟨ad, c', hv', -, c0, c1⟩ := Rns.cell a (i := i) (by omega)
      obtain ⟨rfl, -⟩ : pa = some ad ∧ ca = c' := by cases hv'; exact ⟨rfl, rfl⟩
      obtain ⟨bd, d', hw', -, d0, d1⟩ := Rns.cell b hin
      obtain ⟨rfl, -⟩ : pb = some bd ∧ cb = d' := by cases hw'; exact ⟨rfl, rfl⟩
      have hiL : i < L.length := by omega
      by_cases he : L[i] = M[i]
      · have h1 : L[i].at_ = M[i].at_ := by rw [he]
        have h2 : L[i].len = M[i].len := by rw [he]
        rw [h1] at c0
        rw [h2] at c1
        simp (disch := omega) [c0, c1, d0, d1, hl]
        refine hX (i + 1) _ _ (by simp) ⟨rfl, hin, ?_⟩ (by omega)
        rw [List.take_succ_eq_append_getElem hiL, List.take_succ_eq_append_getElem hin, heq, he]
      · have hne : ¬ L = M := fun e => he (by subst e; rfl)
        rw [decide_eq_false hne] at H
        simp (disch := omega) [c0, c1, d0, d1, hl]
        refine Split.mk (fun e => ?_) (fun _ => ?_)
        · refine absurd ?_ he
          have e1 := e.1
          have e2 := e.2
          generalize L[i] = x at *
          generalize M[i] = y at *
          cases x; cases y
          simp only [Rn.mk.injEq]
          dsimp only at e1 e2
          omega
        · simp (disch := omega)
          exact H
    · have : L = M := by
        have e1 : L.take i = L := List.take_of_length_le (by omega)
        have e2 : M.take i = M := List.take_of_length_le (by omega)
        rw [← e1, heq, e2]
      rw [decide_eq_true this] at H
      simp (disch := omega) [hl]
      exact H
  · have hne : ¬ L = M := fun e => hl (by rw [e])
    rw [decide_eq_false hne] at H
    simp (disch := omega)
    exact H
end Go.Proofs.Ytgcllbelgakjgaa
