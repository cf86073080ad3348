/- Locks: one is found. Locks: what may be asked; could a request hold? Locks: the methods of a line. -/
import Derived.Test.YtlligpgjkmfhpaaLockA
set_option linter.unusedSimpArgs false
set_option linter.unusedVariables false
namespace Go.Proofs.Ytlligpgjkmfhpaa
open Go.Vc
variable {K : Value → Heap → Prop} {h : Heap}

structure Lk where
  m : Nat
  H : List Rb
  W : List Rb
  w : Value
  tk : Int
def Lk.all (s : Lk) : List Rb := s.H ++ s.W
/-- Who may write where, at a place. -/
structure LkAt (h : Heap) (p : Nat) (s : Lk) : Prop where
  cells : h[p]? = some (.cells #[.map (some s.m), s.w, .int .i64 s.tk] 57)
  map : MapK (.int .i64) h s.m (mapL s.H)
  row : OwnT lnT 1 h s.w (ptrs s.W)
  rq : ∀ x ∈ s.all, RbAt h x ∧ x.key = x.r.id
  blks : (s.all.map (·.b)).Nodup
  keys : (s.all.map (·.key)).Nodup
  few : s.all.length < 100000

theorem LkAt.ext {h' : Heap} {p : Nat} {s : Lk} (a : LkAt h p s) (e : Ext h h') : LkAt h' p s :=
  ⟨(e.block p (get_some_lt a.cells)).trans a.cells, a.map.ext e, a.row.ext e, fun x hx => ⟨(a.rq x hx).1.ext e, (a.rq x hx).2⟩, a.blks, a.keys, a.few⟩

theorem look_mapL (n : Int) : ∀ H : List Rb, look2 n (mapL H) = (H.find? (fun x => decide (x.key = n))).map (fun x => ptrV x.b)
  | [] => rfl
  | x :: H => by
    have ih := look_mapL n H
    unfold mapL at *
    rw [List.map_cons, look2, List.find?_cons]
    by_cases e : x.key = n
    · simp [e]
    · simp [e, ih, Ne.symm e]

def findS (s : Lk) (n : Int) : Option (Rb × Bool) :=
  match s.H.find? (fun x => decide (x.key = n)) with
  | some x => some (x, false)
  | none => match s.W.find? (fun x => decide (x.key = n)) with
    | some x => some (x, true)
    | none => none
def findV : Option (Rb × Bool) → Value
  | some (x, b) => .tuple #[ptrV x.b, .bool b]
  | none => .tuple #[.pointer none, .bool false]

theorem find1_c {x : Rb} {n : Int} {b : Nat} (hx : RbAt h x) (hk : x.key = x.r.id) (hb : hcell h ⟨b, 0, none⟩ = some (.int .i64 n)) (H : K (.bool (decide (x.key = n))) h) :
    CallsH Try.prog 46 #[ptrV x.b, ptrV b] h K ⟨⟩ := by
  refine n46_calls ?_
  unfold n46 ptrV
  have c0 := hx.1.c0
  rw [← hk] at c0
  simp (disch := omega) [c0, hb]
  refine Split.mk (fun e => ?_) (fun e => ?_)
  · rw [decide_eq_true e] at H; exact H
  · rw [decide_eq_false e] at H; exact H

theorem find_c {p : Nat} {s : Lk} {n : Int} (hs : LkAt h p s) (H : ∀ h', Ext h h' → K (findV (findS s n)) h') : CallsH Try.prog 28 #[ptrV p, .int .i64 n] h K ⟨⟩ := by
  refine n28_calls ?_
  unfold n28 ptrV
  have e0 : Ext h (h.push (.cells #[.int .i64 n] 3)) := (by repeat' (first | (with_reducible exact Ext.refl _) | (with_reducible assumption) | (with_reducible refine push_ext ?_) | (with_reducible refine hset_ext ?_ ?_) | (with_reducible refine Ext.trans ?_ (by assumption)) | omega | (simp; done) | (simp; omega) | (refine Ext.size ?_) | (refine Nat.le_succ_of_le (Ext.size ?_))))
  have hs0 := hs.ext e0
  have c0 := cellOf hs0.cells (i := 0) rfl
  have c1 := cellOf hs0.cells (i := 1) rfl
  have cn : hcell (h.push (.cells #[.int .i64 n] 3)) ⟨h.size, 0, none⟩ = some (.int .i64 n) := by simp
  simp (disch := omega) [c0, cn, Hp_lookup lockKey (z := .pointer none) (by kernel_rfl) hs0.map, look_mapL]
  unfold findS at H
  cases hf : s.H.find? (fun x => decide (x.key = n)) with
  | some x =>
    rw [hf] at H
    simp (disch := omega)
    exact H _ e0
  | none =>
    rw [hf] at H
    simp (disch := omega) [c1]
    refine IndexFunc_c (pr := fun x => decide (x.key = n)) hs0.row (by have := hs.few; simp [Lk.all] at this; omega) (fun x hx h' K' e' H' => ?_) (fun h' e' => ?_)
    · refine InvokeH_k1 (by kernel_rfl) ?_
      have hxx := hs0.rq x (List.mem_append_right _ hx)
      exact find1_c (hxx.1.ext e') hxx.2 (hcell_ext e' cn) (H' h' (.refl _))
    · cases hw : s.W.find? (fun x => decide (x.key = n)) with
      | none =>
        rw [hw] at H
        have : s.W.findIdx? (fun x => decide (x.key = n)) = none := by
          rw [List.find?_eq_none] at hw
          rw [List.findIdx?_eq_none_iff]
          intro x hx; simpa using hw x hx
        simp (disch := omega) [this]
        exact H _ (e0.trans e')
      | some x =>
        rw [hw] at H
        obtain ⟨i, hi, hxe, hpi, hno⟩ : ∃ i, ∃ hi : i < s.W.length, s.W[i] = x ∧ x.key = n ∧ ∀ j (hj : j < i), (s.W[j]'(by omega)).key ≠ n := by
          rw [List.find?_eq_some_iff_getElem] at hw
          obtain ⟨h1, i, hi, h2, h3⟩ := hw
          exact ⟨i, hi, h2, by simpa using h1, fun j hj => by simpa using h3 j hj⟩
        have hix : s.W.findIdx? (fun x => decide (x.key = n)) = some i := by
          rw [List.findIdx?_eq_some_iff_getElem]
          exact ⟨hi, by rw [hxe]; simpa using hpi, fun j hj => by simpa using hno j hj⟩
        have hrow := (hs0.ext e').row
        have c2 := hcell_ext e' c1
        obtain ⟨a, nn, cc, hwe, hn, hc, hne⟩ := hrow.form (by omega)
        rw [ptrs_len, Nat.mul_one] at hn
        obtain ⟨b, rfl⟩ := hne (by intro x; have := ptrs_len s.W; rw [x] at this; simp at this; omega)
        rw [hwe] at hrow c2
        have hcl := (hrow.elt (i := i) (by rw [ptrs_len]; exact hi)).1
        have hpe : (ptrs s.W)[i]'(by rw [ptrs_len]; exact hi) = ptrV x.b := by simp [ptrs, hxe]
        rw [hpe] at hcl
        simp (disch := omega) [hix, c2, hcl]
        exact H _ (e0.trans e')
end Go.Proofs.Ytlligpgjkmfhpaa
set_option linter.unusedSimpArgs false
set_option linter.unusedVariables false
namespace Go.Proofs.Ytlligpgjkmfhpaa
open Go.Vc
variable {K : Value → Heap → Prop} {h : Heap}

/-- A request as it is asked. -/
def lockV (id a l : Int) (al : Bool) : Value := .agg #[.int .i64 id, .int .i64 a, .int .i64 l, .bool al]
def MayP (id a l : Int) : Prop := 0 ≤ id ∧ id < 4096 ∧ 0 ≤ a ∧ 0 ≤ l ∧ a ≤ 72057594037927936 ∧ l ≤ 72057594037927936 - a
instance {id a l : Int} : Decidable (MayP id a l) := by unfold MayP; exact inferInstance

theorem id_c {n : Int} (H : K (.bool (decide (0 ≤ n ∧ n < 4096))) h) : CallsH Try.prog 44 #[.int .i64 n] h K ⟨⟩ := by
  refine n44_calls ?_
  unfold n44
  ((try (simp (disch := omega))); repeat' ((first | (refine Split.mk (fun _ => ?_) (fun _ => ?_))) <;> ((try (simp (disch := omega))))))
  all_goals (first | (rw [decide_eq_true (by omega)] at H; exact H) | (rw [decide_eq_false (by omega)] at H; exact H))
theorem rid_c {n : Int} (H : K (.bool (decide (0 ≤ n ∧ n < 4096))) h) : CallsH Try.prog 25 #[.int .i64 n] h K ⟨⟩ := by
  refine n25_calls ?_
  unfold n25
  ((try (simp (disch := omega))); repeat' ((first | (refine Split.mk (fun _ => ?_) (fun _ => ?_))) <;> ((try (simp (disch := omega))))))
  all_goals (first | (rw [decide_eq_true (by omega)] at H; exact H) | (rw [decide_eq_false (by omega)] at H; exact H))

theorem may_c {id a l : Int} {al : Bool} (H : ∀ h', Ext h h' → K (.bool (decide (MayP id a l))) h') : CallsH Try.prog 27 #[lockV id a l al] h K ⟨⟩ := by
  have hT : MayP id a l → ∀ h', Ext h h' → K (.bool true) h' := fun m h' e => by have := H h' e; rwa [decide_eq_true m] at this
  have hF : ¬ MayP id a l → ∀ h', Ext h h' → K (.bool false) h' := fun m h' e => by have := H h' e; rwa [decide_eq_false m] at this
  refine n27_calls ?_
  unfold n27 lockV
  simp (disch := omega)
  refine id_c ?_
  by_cases hi : 0 ≤ id ∧ id < 4096
  · rw [decide_eq_true hi]
    ((try (simp (disch := omega))); repeat' ((first | (refine Split.mk (fun _ => ?_) (fun _ => ?_))) <;> ((try (simp (disch := omega))))))
    all_goals (first | exact hT (by unfold MayP; omega) _ (by repeat' (first | (with_reducible exact Ext.refl _) | (with_reducible assumption) | (with_reducible refine push_ext ?_) | (with_reducible refine hset_ext ?_ ?_) | (with_reducible refine Ext.trans ?_ (by assumption)) | omega | (simp; done) | (simp; omega) | (refine Ext.size ?_) | (refine Nat.le_succ_of_le (Ext.size ?_)))) | exact hF (by unfold MayP; omega) _ (by repeat' (first | (with_reducible exact Ext.refl _) | (with_reducible assumption) | (with_reducible refine push_ext ?_) | (with_reducible refine hset_ext ?_ ?_) | (with_reducible refine Ext.trans ?_ (by assumption)) | omega | (simp; done) | (simp; omega) | (refine Ext.size ?_) | (refine Nat.le_succ_of_le (Ext.size ?_)))))
  · rw [decide_eq_false hi]
    simp (disch := omega)
    exact hF (by unfold MayP; omega) _ (by repeat' (first | (with_reducible exact Ext.refl _) | (with_reducible assumption) | (with_reducible refine push_ext ?_) | (with_reducible refine hset_ext ?_ ?_) | (with_reducible refine Ext.trans ?_ (by assumption)) | omega | (simp; done) | (simp; omega) | (refine Ext.size ?_) | (refine Nat.le_succ_of_le (Ext.size ?_))))
theorem rMay_c {id a l : Int} {al : Bool} (H : ∀ h', Ext h h' → K (.bool (decide (MayP id a l))) h') : CallsH Try.prog 9 #[lockV id a l al] h K ⟨⟩ := by
  have hT : MayP id a l → ∀ h', Ext h h' → K (.bool true) h' := fun m h' e => by have := H h' e; rwa [decide_eq_true m] at this
  have hF : ¬ MayP id a l → ∀ h', Ext h h' → K (.bool false) h' := fun m h' e => by have := H h' e; rwa [decide_eq_false m] at this
  refine n9_calls ?_
  unfold n9 lockV
  simp (disch := omega)
  refine rid_c ?_
  by_cases hi : 0 ≤ id ∧ id < 4096
  · rw [decide_eq_true hi]
    ((try (simp (disch := omega))); repeat' ((first | (refine Split.mk (fun _ => ?_) (fun _ => ?_))) <;> ((try (simp (disch := omega))))))
    all_goals (first | exact hT (by unfold MayP; omega) _ (by repeat' (first | (with_reducible exact Ext.refl _) | (with_reducible assumption) | (with_reducible refine push_ext ?_) | (with_reducible refine hset_ext ?_ ?_) | (with_reducible refine Ext.trans ?_ (by assumption)) | omega | (simp; done) | (simp; omega) | (refine Ext.size ?_) | (refine Nat.le_succ_of_le (Ext.size ?_)))) | exact hF (by unfold MayP; omega) _ (by repeat' (first | (with_reducible exact Ext.refl _) | (with_reducible assumption) | (with_reducible refine push_ext ?_) | (with_reducible refine hset_ext ?_ ?_) | (with_reducible refine Ext.trans ?_ (by assumption)) | omega | (simp; done) | (simp; omega) | (refine Ext.size ?_) | (refine Nat.le_succ_of_le (Ext.size ?_)))))
  · rw [decide_eq_false hi]
    simp (disch := omega)
    exact hF (by unfold MayP; omega) _ (by repeat' (first | (with_reducible exact Ext.refl _) | (with_reducible assumption) | (with_reducible refine push_ext ?_) | (with_reducible refine hset_ext ?_ ?_) | (with_reducible refine Ext.trans ?_ (by assumption)) | omega | (simp; done) | (simp; omega) | (refine Ext.size ?_) | (refine Nat.le_succ_of_le (Ext.size ?_))))

theorem none_c {p : Nat} {m w t : Value} {mm : Nat} (hp : h[p]? = some (.cells #[.map (some mm), w, t] 57)) (H : K (.bool false) h) : CallsH Try.prog 26 #[ptrV p] h K ⟨⟩ := by
  refine n26_calls ?_
  unfold n26 ptrV
  have c0 := cellOf hp (i := 0) rfl
  simp (disch := omega) [c0]
  exact H

/-- Could a request (of a block of its own) hold? -/
def couldS (s : Lk) (r : Rq) : Bool := !(s.H.any fun x => agst r x.r) && !(s.W.any fun x => agst r x.r)

theorem any_ne {b : Nat} {r : Rq} {xs : List Rb} (hb : ∀ x ∈ xs, b ≠ x.b) : (xs.any fun x => !decide (b = x.b) && agst r x.r) = xs.any fun x => agst r x.r := by
  induction xs with
  | nil => rfl
  | cons x xs ih =>
    rw [List.any_cons, List.any_cons, ih (fun y hy => hb y (List.mem_cons_of_mem _ hy)), decide_eq_false (hb x List.mem_cons_self)]
    simp

theorem could_c {p b : Nat} {s : Lk} {r : Rq} (hs : LkAt h p s) (hr : RqAt h b r) (ho : r.ok) (hb : ∀ x ∈ s.all, b ≠ x.b) (H : ∀ h', Ext h h' → K (.bool (couldS s r)) h') :
    CallsH Try.prog 29 #[ptrV p, ptrV b] h K ⟨⟩ := by
  refine n29_calls ?_
  unfold n29
  simp (disch := omega)
  have hH : ∀ x ∈ s.H, RbAt h x := fun x hx => (hs.rq x (List.mem_append_left _ hx)).1
  refine holds_c hs.cells hs.map (against_tells hr ho hH) fun h1 e1 => ?_
  rw [any_ne (fun x hx => hb x (List.mem_append_left _ hx))]
  unfold couldS at H
  cases hc : s.H.any fun x => agst r x.r with
  | true =>
    rw [hc] at H
    simp (disch := omega)
    exact H _ e1
  | false =>
    rw [hc] at H
    have hs1 := hs.ext e1
    have c1 := cellOf hs1.cells (i := 1) rfl
    have hW : ∀ x ∈ s.W, RbAt h1 x := fun x hx => (hs1.rq x (List.mem_append_right _ hx)).1
    unfold ptrV
    simp (disch := omega) [c1]
    refine ContainsFunc_c hs1.row (by have := hs.few; simp [Lk.all] at this; omega) (against_tells (hr.ext e1) ho hW) fun h2 e2 => ?_
    rw [any_ne (fun x hx => hb x (List.mem_append_right _ hx))]
    have key := H _ (e1.trans e2)
    cases hw : s.W.any fun x => agst r x.r with
    | true =>
      rw [hw] at key
      simp (disch := omega)
      exact key
    | false =>
      rw [hw] at key
      simp (disch := omega)
      exact key
end Go.Proofs.Ytlligpgjkmfhpaa
set_option linter.unusedSimpArgs false
set_option linter.unusedVariables false
namespace Go.Proofs.Ytlligpgjkmfhpaa
open Go.Vc
variable {K : Value → Heap → Prop} {h : Heap}

/-- A line in the midst of a Locks. -/
structure LnAt (h : Heap) (p : Nat) (A B v : Value) (W : List Rb) : Prop where
  cells : h[p]? = some (.cells #[A, v, B] 57)
  row : OwnT lnT 1 h v (ptrs W)
  rq : ∀ x ∈ W, RqAt h x.b x.r
  few : W.length < 100000
theorem lnT_ne : lnT ≠ 57 := by decide
theorem lnT_ne2 : lnT ≠ 63 := by decide

def lineV (p : Nat) : Value := .iface 66 (.pointer (some ⟨p, 1, none⟩))
def swapL (W : List Rb) (i j : Nat) : List Rb := match W[i]?, W[j]? with
  | some x, some y => (W.set i y).set j x
  | _, _ => W
theorem swapL_eq {W : List Rb} {i j : Nat} (hi : i < W.length) (hj : j < W.length) : swapL W i j = (W.set i W[j]).set j W[i] := by
  unfold swapL
  rw [List.getElem?_eq_getElem hi, List.getElem?_eq_getElem hj]
theorem swapL_len (W : List Rb) (i j : Nat) : (swapL W i j).length = W.length := by
  unfold swapL
  split <;> simp
theorem LnAt.form {p : Nat} {A B v : Value} {W : List Rb} (s : LnAt h p A B v W) : ∃ a c, v = .slice a W.length c ∧ W.length ≤ c ∧ (W ≠ [] → ∃ b, a = some ⟨b, 0, none⟩) := by
  obtain ⟨a, n, c, rfl, hn, hc, hne⟩ := s.row.form (by omega)
  rw [ptrs_len, Nat.mul_one] at hn
  subst hn
  exact ⟨a, c, rfl, hc, fun hW => hne (by simpa [ptrs] using hW)⟩

theorem lineLen_c {p : Nat} {A B v : Value} {W : List Rb} (s : LnAt h p A B v W) (H : K (.int .i64 W.length) h) : MethodH Try.prog (lineV p) "Len" #[] h K ⟨⟩ := by
  refine MLen (cellOf s.cells (i := 1) rfl) ?_
  obtain ⟨a, c, rfl, hc, hne⟩ := s.form
  refine n50_calls ?_
  unfold n50
  simp (disch := omega)
  exact H

theorem lineLess_c {p : Nat} {A B v : Value} {W : List Rb} {i j : Nat} (s : LnAt h p A B v W) (hi : i < W.length) (hj : j < W.length) (H : K (.bool (decide (W[i].r.tk < W[j].r.tk))) h) :
    MethodH Try.prog (lineV p) "Less" #[.int .i64 i, .int .i64 j] h K ⟨⟩ := by
  refine MLess (cellOf s.cells (i := 1) rfl) ?_
  obtain ⟨a, c, rfl, hc, hne⟩ := s.form
  obtain ⟨b, rfl⟩ := hne (fun e => by subst e; simp at hi)
  refine n105_calls ?_
  unfold n105
  have ci := (s.row.elt (i := i) (by rw [ptrs_len]; exact hi)).1
  have cj := (s.row.elt (i := j) (by rw [ptrs_len]; exact hj)).1
  have ei : (ptrs W)[i]'(by rw [ptrs_len]; exact hi) = .pointer (some ⟨W[i].b, 0, none⟩) := by simp [ptrs, ptrV]
  have ej : (ptrs W)[j]'(by rw [ptrs_len]; exact hj) = .pointer (some ⟨W[j].b, 0, none⟩) := by simp [ptrs, ptrV]
  rw [ei] at ci
  rw [ej] at cj
  have ti := (s.rq _ (List.getElem_mem hi)).c4
  have tj := (s.rq _ (List.getElem_mem hj)).c4
  simp (disch := omega) [ci, cj, ti, tj]
  refine Split.mk (fun e => ?_) (fun e => ?_)
  · rw [decide_eq_true e] at H; exact H
  · rw [decide_eq_false e] at H; exact H

theorem lineSwap_c {p : Nat} {A B v : Value} {W : List Rb} {i j : Nat} (s : LnAt h p A B v W) (hi : i < W.length) (hj : j < W.length)
    (H : ∀ h', LnAt h' p A B v (swapL W i j) → Mod (fun b => blkV v = some b) h h' → K (.tuple #[]) h') :
    MethodH Try.prog (lineV p) "Swap" #[.int .i64 i, .int .i64 j] h K ⟨⟩ := by
  refine MSwap (cellOf s.cells (i := 1) rfl) ?_
  obtain ⟨a, c, rfl, hc, hne⟩ := s.form
  obtain ⟨b, rfl⟩ := hne (fun e => by subst e; simp at hi)
  refine n106_calls ?_
  unfold n106
  have li : i < (ptrs W).length := by rw [ptrs_len]; exact hi
  have lj : j < (ptrs W).length := by rw [ptrs_len]; exact hj
  have ci := s.row.elt li
  have cj := s.row.elt lj
  have ei : (ptrs W)[i]'li = .pointer (some ⟨W[i].b, 0, none⟩) := by simp [ptrs, ptrV]
  have ej : (ptrs W)[j]'lj = .pointer (some ⟨W[j].b, 0, none⟩) := by simp [ptrs, ptrV]
  rw [ei] at ci
  rw [ej] at cj
  have r1 := s.row.setE li (u := .pointer (some ⟨W[j].b, 0, none⟩))
  have cj2 := r1.elt (i := j) (by simpa using lj)
  have r2 := r1.setE (i := j) (by simpa using lj) (u := .pointer (some ⟨W[i].b, 0, none⟩))
  simp (disch := omega) [ci.1, ci.2, cj.1, cj.2, cj2.1, cj2.2]
  have hrow : ((ptrs W).set i (.pointer (some ⟨W[j].b, 0, none⟩))).set j (.pointer (some ⟨W[i].b, 0, none⟩)) = ptrs (swapL W i j) := by
    rw [swapL_eq hi hj]; simp [ptrs, ptrV, List.map_set]
  rw [hrow] at r2
  have m : Mod (fun x => blkV (.slice (some ⟨b, 0, none⟩) W.length c) = some x) h (hset (hset h (elt ⟨b, 0, none⟩ i) (.pointer (some ⟨W[j].b, 0, none⟩))) (elt ⟨b, 0, none⟩ j) (.pointer (some ⟨W[i].b, 0, none⟩))) := by
    refine Mod.setIn (Mod.setIn (Mod.refl _ _) (.inl ?_)) (.inl ?_) <;> simp [blkV]
  refine H _ ⟨(m.block p (get_some_lt s.cells) (fun x => s.row.ne x s.cells lnT_ne rfl)).trans s.cells, ?_, fun x hx => ?_, by rw [swapL_len]; exact s.few⟩ m
  · exact r2
  · have hxW : x ∈ W := by
      rw [swapL_eq hi hj] at hx
      rcases List.mem_or_eq_of_mem_set hx with hx | hx
      · rcases List.mem_or_eq_of_mem_set hx with hx | hx
        · exact hx
        · subst hx; exact List.getElem_mem _
      · subst hx; exact List.getElem_mem _
    have := s.rq x hxW
    exact this.mod m (fun e => s.row.ne e this lnT_ne2 rfl)

theorem linePush_c {p : Nat} {A B v : Value} {W : List Rb} {x : Rb} (s : LnAt h p A B v W) (hx : RqAt h x.b x.r) (hf : W.length + 1 < 100000)
    (H : ∀ v' h', LnAt h' p A B v' (W ++ [x]) → Mod (fun b => b = p ∨ blkV v = some b) h h' → (∀ b, blkV v' = some b → blkV v = some b ∨ h.size ≤ b) → K (.tuple #[]) h') :
    MethodH Try.prog (lineV p) "Push" #[.iface lnT (ptrV x.b)] h K ⟨⟩ := by
  refine MPush ?_
  obtain ⟨a, c, rfl, hc, hne⟩ := s.form
  refine n108_calls ?_
  unfold n108 ptrV lnT
  have c1 := cellOf s.cells (i := 1) rfl
  have hpl := get_some_lt s.cells
  simp (disch := omega) [c1, Hp_assert (P := Try.prog) (t := 59) (by kernel_rfl)]
  have hbs : Ext h (h.push (.cells (List.toArray [ptrV x.b]) lnT)) := (by repeat' (first | (with_reducible exact Ext.refl _) | (with_reducible assumption) | (with_reducible refine push_ext ?_) | (with_reducible refine hset_ext ?_ ?_) | (with_reducible refine Ext.trans ?_ (by assumption)) | omega | (simp; done) | (simp; omega) | (refine Ext.size ?_) | (refine Nat.le_succ_of_le (Ext.size ?_))))
  have c2 := cellOf (i := 1) (h := h.push (.cells (List.toArray [ptrV x.b]) lnT)) ((hbs.block p hpl).trans s.cells) rfl
  refine Hp_appendT (e := lnT) (by_ := 8) (by kernel_rfl) (by kernel_rfl) (s.row.ext hbs) (by rw [ptrs_len, Nat.mul_one]) (by omega) (Src_new (vs := [ptrV x.b]) rfl) (by simp [one, ptrV]) (by omega) (by omega) fun v' h3 hO hM hF _ => ?_
  have hne : ∀ b, blkV (.slice a W.length c) = some b → b ≠ p := fun b hb => s.row.ne hb s.cells lnT_ne
  have c3 := (hM.block p (by simp; omega) (fun e => hne _ e rfl)).trans ((hbs.block p hpl).trans s.cells)
  have c4 := cellOf (i := 1) c3 rfl
  have c5 := frzOf (i := 1) c3
  obtain ⟨a', n', c', rfl, -, -, -⟩ := hO.form (by omega)
  simp (disch := omega) [c4, c5]
  have hM2 : Mod (fun b => b = p ∨ blkV (.slice a W.length c) = some b) h (hset h3 ⟨p, 1, none⟩ (.slice a' n' c')) :=
    Mod.setIn ((Mod.of_ext hbs).trans (hM.mono (fun b _ e => .inr e)) (fun _ _ e => e)) (.inl (.inl rfl))
  have hf' : ∀ b, blkV (.slice a' n' c') = some b → blkV (.slice a W.length c) = some b ∨ h.size ≤ b := fun b hb => (hF b hb).imp id (fun e => by simp at e; omega)
  have hpn : ∀ b, blkV (.slice a' n' c') = some b → b ≠ p := fun b hb => hO.ne hb c3 lnT_ne
  refine H _ _ ⟨obj_set c3, ?_, fun y hy => ?_, by simpa using hf⟩ hM2 hf'
  · have := hO.mod (Mod.set h3 ⟨p, 1, none⟩ (.slice a' n' c')) (fun b hb e => hpn b hb e)
    simpa [ptrs] using this
  · have hr : RqAt h y.b y.r := by
      rcases List.mem_append.1 hy with e | e
      · exact s.rq y e
      · simp at e; subst e; exact hx
    refine hr.mod hM2 ?_
    rintro (e | e)
    · have := hr
      unfold RqAt at this
      rw [e, s.cells] at this
      cases this
    · exact s.row.ne e hr lnT_ne2 rfl

theorem linePop_c {p : Nat} {A B v : Value} {W : List Rb} {x : Rb} (s : LnAt h p A B v (W ++ [x]))
    (H : ∀ v' h', LnAt h' p A B v' W → Mod (· = p) h h' → (∀ b, blkV v' = some b → blkV v = some b) → K (.iface lnT (ptrV x.b)) h') :
    MethodH Try.prog (lineV p) "Pop" #[] h K ⟨⟩ := by
  refine MPop ?_
  obtain ⟨a, c, rfl, hc, hne⟩ := s.form
  obtain ⟨b, rfl⟩ := hne (by simp)
  refine n107_calls ?_
  unfold n107
  have c1 := cellOf s.cells (i := 1) rfl
  have f1 := frzOf (i := 1) s.cells
  have hcl := (s.row.elt (i := W.length) (by simp [ptrs])).1
  have hpe : (ptrs (W ++ [x]))[W.length]'(by simp [ptrs]) = ptrV x.b := by simp [ptrs]
  rw [hpe] at hcl
  have hlen : (W ++ [x]).length = W.length + 1 := by simp
  have hrow := s.row
  have hfew := s.few
  rw [hlen] at c1 hc hrow hfew
  have hi1 : (((W.length + 1 : Nat) : Int) - 1) = (W.length : Int) := by omega
  simp (disch := omega) [c1, f1, hcl, ptrV, Hp_mkIface (P := Try.prog) (t := 59) (by kernel_rfl)]
  have m : Mod (· = p) h (hset h ⟨p, 1, none⟩ (.slice (some ⟨b, 0, none⟩) W.length c)) := Mod.set h ⟨p, 1, none⟩ _
  have hbp : b ≠ p := hrow.ne rfl s.cells lnT_ne
  refine H _ _ ⟨obj_set s.cells, ?_, fun y hy => ?_, by omega⟩ m (fun b' hb' => hb')
  · have := (hrow.shrink (k := W.length) (by omega)).mod m (fun b' hb' e => by cases hb'; exact hbp e)
    rw [Nat.mul_one] at this
    have e2 : (ptrs (W ++ [x])).take W.length = ptrs W := by simp [ptrs, List.map_append, List.take_append_of_le_length]
    rw [e2] at this
    exact this
  · have hr := s.rq y (List.mem_append_left _ hy)
    refine hr.mod m (fun e => ?_)
    have := hr
    unfold RqAt at this
    rw [e, s.cells] at this
    cases this
end Go.Proofs.Ytlligpgjkmfhpaa
