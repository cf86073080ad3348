/- Locks: what may be asked; could a request hold? -/
import Derived.Test.YtlligpgjkmfhpaaLock3
set_option linter.unusedSimpArgs false
set_option linter.unusedVariables false
namespace Go.Proofs.Ytlligpgjkmfhpaa
open Go.Vc
variable {K : Value → Heap → Prop} {h : Heap}

/-- A request as it is asked. -/
def lockV (id a l : Int) (al : Bool) : Value := .agg #[.int .i64 id, .int .i64 a, .int .i64 l, .bool al]
def MayP (id a l : Int) : Prop := 0 ≤ id ∧ id < 4096 ∧ 0 ≤ a ∧ 0 ≤ l ∧ a ≤ 72057594037927936 ∧ l ≤ 72057594037927936 - a
instance {id a l : Int} : Decidable (MayP id a l) := by unfold MayP; exact inferInstance

theorem id_c {n : Int} (H : K (.bool (decide (0 ≤ n ∧ n < 4096))) h) : CallsH Try.prog 44 #[.int .i64 n] h K ⟨⟩ := by
  refine n44_calls ?_
  unfold n44
  ((try (simp (disch := omega))); repeat' ((first | (refine Split.mk (fun _ => ?_) (fun _ => ?_))) <;> ((try (simp (disch := omega))))))
  all_goals (first | (rw [decide_eq_true (by omega)] at H; exact H) | (rw [decide_eq_false (by omega)] at H; exact H))
theorem rid_c {n : Int} (H : K (.bool (decide (0 ≤ n ∧ n < 4096))) h) : CallsH Try.prog 25 #[.int .i64 n] h K ⟨⟩ := by
  refine n25_calls ?_
  unfold n25
  ((try (simp (disch := omega))); repeat' ((first | (refine Split.mk (fun _ => ?_) (fun _ => ?_))) <;> ((try (simp (disch := omega))))))
  all_goals (first | (rw [decide_eq_true (by omega)] at H; exact H) | (rw [decide_eq_false (by omega)] at H; exact H))

theorem may_c {id a l : Int} {al : Bool} (H : ∀ h', Ext h h' → K (.bool (decide (MayP id a l))) h') : CallsH Try.prog 27 #[lockV id a l al] h K ⟨⟩ := by
  have hT : MayP id a l → ∀ h', Ext h h' → K (.bool true) h' := fun m h' e => by have := H h' e; rwa [decide_eq_true m] at this
  have hF : ¬ MayP id a l → ∀ h', Ext h h' → K (.bool false) h' := fun m h' e => by have := H h' e; rwa [decide_eq_false m] at this
  refine n27_calls ?_
  unfold n27 lockV
  simp (disch := omega)
  refine id_c ?_
  by_cases hi : 0 ≤ id ∧ id < 4096
  · rw [decide_eq_true hi]
    ((try (simp (disch := omega))); repeat' ((first | (refine Split.mk (fun _ => ?_) (fun _ => ?_))) <;> ((try (simp (disch := omega))))))
    all_goals (first | exact hT (by unfold MayP; omega) _ (by repeat' (first | (with_reducible exact Ext.refl _) | (with_reducible assumption) | (with_reducible refine push_ext ?_) | (with_reducible refine hset_ext ?_ ?_) | (with_reducible refine Ext.trans ?_ (by assumption)) | omega | (simp; done) | (simp; omega) | (refine Ext.size ?_) | (refine Nat.le_succ_of_le (Ext.size ?_)))) | exact hF (by unfold MayP; omega) _ (by repeat' (first | (with_reducible exact Ext.refl _) | (with_reducible assumption) | (with_reducible refine push_ext ?_) | (with_reducible refine hset_ext ?_ ?_) | (with_reducible refine Ext.trans ?_ (by assumption)) | omega | (simp; done) | (simp; omega) | (refine Ext.size ?_) | (refine Nat.le_succ_of_le (Ext.size ?_)))))
  · rw [decide_eq_false hi]
    simp (disch := omega)
    exact hF (by unfold MayP; omega) _ (by repeat' (first | (with_reducible exact Ext.refl _) | (with_reducible assumption) | (with_reducible refine push_ext ?_) | (with_reducible refine hset_ext ?_ ?_) | (with_reducible refine Ext.trans ?_ (by assumption)) | omega | (simp; done) | (simp; omega) | (refine Ext.size ?_) | (refine Nat.le_succ_of_le (Ext.size ?_))))
theorem rMay_c {id a l : Int} {al : Bool} (H : ∀ h', Ext h h' → K (.bool (decide (MayP id a l))) h') : CallsH Try.prog 9 #[lockV id a l al] h K ⟨⟩ := by
  have hT : MayP id a l → ∀ h', Ext h h' → K (.bool true) h' := fun m h' e => by have := H h' e; rwa [decide_eq_true m] at this
  have hF : ¬ MayP id a l → ∀ h', Ext h h' → K (.bool false) h' := fun m h' e => by have := H h' e; rwa [decide_eq_false m] at this
  refine n9_calls ?_
  unfold n9 lockV
  simp (disch := omega)
  refine rid_c ?_
  by_cases hi : 0 ≤ id ∧ id < 4096
  · rw [decide_eq_true hi]
    ((try (simp (disch := omega))); repeat' ((first | (refine Split.mk (fun _ => ?_) (fun _ => ?_))) <;> ((try (simp (disch := omega))))))
    all_goals (first | exact hT (by unfold MayP; omega) _ (by repeat' (first | (with_reducible exact Ext.refl _) | (with_reducible assumption) | (with_reducible refine push_ext ?_) | (with_reducible refine hset_ext ?_ ?_) | (with_reducible refine Ext.trans ?_ (by assumption)) | omega | (simp; done) | (simp; omega) | (refine Ext.size ?_) | (refine Nat.le_succ_of_le (Ext.size ?_)))) | exact hF (by unfold MayP; omega) _ (by repeat' (first | (with_reducible exact Ext.refl _) | (with_reducible assumption) | (with_reducible refine push_ext ?_) | (with_reducible refine hset_ext ?_ ?_) | (with_reducible refine Ext.trans ?_ (by assumption)) | omega | (simp; done) | (simp; omega) | (refine Ext.size ?_) | (refine Nat.le_succ_of_le (Ext.size ?_)))))
  · rw [decide_eq_false hi]
    simp (disch := omega)
    exact hF (by unfold MayP; omega) _ (by repeat' (first | (with_reducible exact Ext.refl _) | (with_reducible assumption) | (with_reducible refine push_ext ?_) | (with_reducible refine hset_ext ?_ ?_) | (with_reducible refine Ext.trans ?_ (by assumption)) | omega | (simp; done) | (simp; omega) | (refine Ext.size ?_) | (refine Nat.le_succ_of_le (Ext.size ?_))))

theorem none_c {p : Nat} {m w t : Value} {mm : Nat} (hp : h[p]? = some (.cells #[.map (some mm), w, t] 57)) (H : K (.bool false) h) : CallsH Try.prog 26 #[ptrV p] h K ⟨⟩ := by
  refine n26_calls ?_
  unfold n26 ptrV
  have c0 := cellOf hp (i := 0) rfl
  simp (disch := omega) [c0]
  exact H

/-- Could a request (of a block of its own) hold? -/
def couldS (s : Lk) (r : Rq) : Bool := !(s.H.any fun x => agst r x.r) && !(s.W.any fun x => agst r x.r)

theorem any_ne {b : Nat} {r : Rq} {xs : List Rb} (hb : ∀ x ∈ xs, b ≠ x.b) : (xs.any fun x => !decide (b = x.b) && agst r x.r) = xs.any fun x => agst r x.r := by
  induction xs with
  | nil => rfl
  | cons x xs ih =>
    rw [List.any_cons, List.any_cons, ih (fun y hy => hb y (List.mem_cons_of_mem _ hy)), decide_eq_false (hb x List.mem_cons_self)]
    simp

theorem could_c {p b : Nat} {s : Lk} {r : Rq} (hs : LkAt h p s) (hr : RqAt h b r) (ho : r.ok) (hb : ∀ x ∈ s.all, b ≠ x.b) (H : ∀ h', Ext h h' → K (.bool (couldS s r)) h') :
    CallsH Try.prog 29 #[ptrV p, ptrV b] h K ⟨⟩ := by
  refine n29_calls ?_
  unfold n29
  simp (disch := omega)
  have hH : ∀ x ∈ s.H, RbAt h x := fun x hx => (hs.rq x (List.mem_append_left _ hx)).1
  refine holds_c hs.cells hs.map (against_tells hr ho hH) fun h1 e1 => ?_
  rw [any_ne (fun x hx => hb x (List.mem_append_left _ hx))]
  unfold couldS at H
  cases hc : s.H.any fun x => agst r x.r with
  | true =>
    rw [hc] at H
    simp (disch := omega)
    exact H _ e1
  | false =>
    rw [hc] at H
    have hs1 := hs.ext e1
    have c1 := cellOf hs1.cells (i := 1) rfl
    have hW : ∀ x ∈ s.W, RbAt h1 x := fun x hx => (hs1.rq x (List.mem_append_right _ hx)).1
    unfold ptrV
    simp (disch := omega) [c1]
    refine ContainsFunc_c hs1.row (by have := hs.few; simp [Lk.all] at this; omega) (against_tells (hr.ext e1) ho hW) fun h2 e2 => ?_
    rw [any_ne (fun x hx => hb x (List.mem_append_right _ hx))]
    have key := H _ (e1.trans e2)
    cases hw : s.W.any fun x => agst r x.r with
    | true =>
      rw [hw] at key
      simp (disch := omega)
      exact key
    | false =>
      rw [hw] at key
      simp (disch := omega)
      exact key
end Go.Proofs.Ytlligpgjkmfhpaa
