/- Locks: those that are asked, one by one; what a law holds for against. -/
import Derived.Test.YtlligpgjkmfhpaaLock13
import Derived.Test.YtlligpgjkmfhpaaLockOpen
set_option linter.unusedSimpArgs false
set_option linter.unusedVariables false
namespace Go.Proofs.Ytlligpgjkmfhpaa
open Go.Vc
variable {K : Value → Heap → Prop} {h : Heap}

def Lx.ok (x : Lx) : Prop := 0 ≤ x.a ∧ 0 ≤ x.l ∧ x.a + x.l ≤ 72057594037927936
def Lx.rq (x : Lx) (tk : Int) : Rq := ⟨x.id, x.a, x.l, x.al, tk⟩
def Lx.val (x : Lx) : Value := lockV x.id x.a x.l x.al

set_option maxHeartbeats 2000000 in
theorem lawAgainst_c {x y : Lx} (ox : x.ok) (oy : y.ok) (H : ∀ h', Ext h h' → K (.bool (agst (x.rq 0) (y.rq 0))) h') :
    CallsH Try.prog 15 #[x.val, y.val] h K ⟨⟩ := by
  obtain ⟨i1, a1, l1, b1⟩ := x
  obtain ⟨i2, a2, l2, b2⟩ := y
  obtain ⟨x0, x1, x2⟩ := ox
  obtain ⟨y0, y1, y2⟩ := oy
  dsimp only at x0 x1 x2 y0 y1 y2
  refine n15_calls ?_
  unfold n15
  rw [show (Lx.mk i1 a1 l1 b1).val = .agg #[.int .i64 i1, .int .i64 a1, .int .i64 l1, .bool b1] from rfl, show (Lx.mk i2 a2 l2 b2).val = .agg #[.int .i64 i2, .int .i64 a2, .int .i64 l2, .bool b2] from rfl]
  unfold Lx.rq agst at H
  dsimp only at H
  have fin : ∀ (p : Prop) [Decidable p] (b : Bool) (h' : Heap), Ext h h' → K (.bool (true && decide p)) h' → (p → b = true) → (¬ p → b = false) → K (.bool b) h' := fun p _ b h' _ hK h1 h2 => by
    by_cases hp : p
    · rw [h1 hp]; simpa [hp] using hK
    · rw [h2 hp]; simpa [hp] using hK
  cases b1 <;> cases b2 <;> simp (disch := omega) [Hp_max2, Hp_min2]
  · exact H _ (by repeat' (first | (with_reducible exact Ext.refl _) | (with_reducible assumption) | (with_reducible refine push_ext ?_) | (with_reducible refine hset_ext ?_ ?_) | (with_reducible refine Ext.trans ?_ (by assumption)) | omega | (simp; done) | (simp; omega) | (refine Ext.size ?_) | (refine Nat.le_succ_of_le (Ext.size ?_))))
  all_goals
    refine Split.mk (fun hc => ?_) (fun hc => ?_)
    · simp
      rw [decide_eq_true hc] at H
      exact H _ (by repeat' (first | (with_reducible exact Ext.refl _) | (with_reducible assumption) | (with_reducible refine push_ext ?_) | (with_reducible refine hset_ext ?_ ?_) | (with_reducible refine Ext.trans ?_ (by assumption)) | omega | (simp; done) | (simp; omega) | (refine Ext.size ?_) | (refine Nat.le_succ_of_le (Ext.size ?_))))
    · simp
      rw [decide_eq_false hc] at H
      exact H _ (by repeat' (first | (with_reducible exact Ext.refl _) | (with_reducible assumption) | (with_reducible refine push_ext ?_) | (with_reducible refine hset_ext ?_ ?_) | (with_reducible refine Ext.trans ?_ (by assumption)) | omega | (simp; done) | (simp; omega) | (refine Ext.size ?_) | (refine Nat.le_succ_of_le (Ext.size ?_))))

/-- A list of requests of one's own. -/
def OwnL (h : Heap) (v : Value) (xs : List Lx) : Prop := OwnT 29 4 h v (xs.flatMap Lx.cells)
theorem flatL_len : ∀ xs : List Lx, (xs.flatMap Lx.cells).length = xs.length * 4
  | [] => rfl
  | x :: xs => by rw [List.flatMap_cons, List.length_append, flatL_len xs]; simp [Lx.cells]; omega
theorem flatL_get : ∀ (xs : List Lx) (i j : Nat) (hi : i < xs.length) (hj : j < 4), (xs.flatMap Lx.cells)[i * 4 + j]? = xs[i].cells[j]?
  | x :: xs, 0, j, _, hj => by
    rw [List.flatMap_cons, List.getElem?_append_left (by simp [Lx.cells]; omega)]
    simp
  | x :: xs, i + 1, j, hi, hj => by
    rw [List.flatMap_cons, List.getElem?_append_right (by simp [Lx.cells]; omega)]
    have : (i + 1) * 4 + j - x.cells.length = i * 4 + j := by simp [Lx.cells]; omega
    rw [this, flatL_get xs i j (by simpa using hi) hj]
    rfl
theorem OwnL.form {v : Value} {xs : List Lx} (o : OwnL h v xs) : ∃ a c, v = .slice a xs.length c ∧ xs.length ≤ c := by
  obtain ⟨a, n, c, rfl, hn, hc, -⟩ := OwnT.form o (by omega)
  rw [flatL_len] at hn
  have : xs.length = n := by omega
  subst this
  exact ⟨a, c, rfl, hc⟩
theorem OwnL.lxs {v : Value} {xs : List Lx} (o : OwnL h v xs) : Lxs h v xs := by
  rcases o with ⟨rfl, hx⟩ | ⟨b, n, c, rest, rfl, h1, h2, h3, h4⟩
  · refine .inl ⟨rfl, ?_⟩
    have := flatL_len xs
    rw [hx] at this
    exact List.length_eq_zero_iff.1 (by simp at this; omega)
  · rw [flatL_len] at h1
    have : xs.length = n := by omega
    subst this
    refine .inr ⟨⟨b, 0, none⟩, c, rfl, h2, fun i hi => ⟨xs[i].cells, rfl, fun j hj => ?_, rfl⟩⟩
    have hj4 : j < 4 := hj
    rw [elt_mk, elt_mk, Nat.zero_add, hcell_of_block h3]
    simp only [List.getElem?_toArray]
    rw [List.getElem?_append_left (by rw [flatL_len]; omega), flatL_get xs i j hi hj4, List.getElem?_eq_getElem hj]
theorem OwnL.push {t2 : TypeId} {v : Value} {xs : List Lx} {x : Lx} (o : OwnL h v xs) (hl : xs.length < 100000) (ht2 : notInt Try.prog t2 = true)
    (H : ∀ v' h', OwnL h' v' (xs ++ [x]) → Mod (fun b => blkV v = some b) h h' → (∀ b, blkV v' = some b → blkV v = some b ∨ h.size ≤ b) → K v' h') :
    Hp Try.prog false (Builtin.append_ #[22, t2] 22 #[v, .slice (some ⟨h.size, 0, none⟩) 1 1]) K (h.push (.cells x.cells.toArray 29)) ⟨⟩ := by
  have hbs : Ext h (h.push (.cells x.cells.toArray 29)) := push_ext (.refl h)
  have o' : OwnT 29 4 h v (xs.flatMap Lx.cells) := o
  refine Hp_appendT (e := 29) (s := 4) (by_ := 32) (n := xs.length) (k := 1) (news := x.cells) (by kernel_rfl) ht2 (o'.ext hbs) (flatL_len xs) (by omega) (Src_new (vs := x.cells) rfl) (by simp [Lx.cells, one]) (by omega) (by omega) fun v' h3 hO hM hF _ => ?_
  refine H v' h3 ?_ ((Mod.of_ext hbs).trans hM (fun _ _ e => e)) (fun b hb => (hF b hb).imp (fun e => e) (fun e => by simp at e; omega))
  show OwnT 29 4 h3 v' ((xs ++ [x]).flatMap Lx.cells)
  rw [List.flatMap_append]
  simpa using hO
/-- A list of requests lies nowhere where Locks lie. -/
theorem LkAt.notL {p : Nat} {s : Lk} {v : Value} {xs : List Lx} (a : LkAt h p s) (o : OwnL h v xs) {b : Nat} (hb : blkV v = some b) : ¬ foot p s b := by
  obtain ⟨arr, ha⟩ := OwnT.tag o hb
  rintro (e | e | e)
  · rw [e, a.cells] at ha
    cases ha
  · obtain ⟨es, cl, h1, _⟩ := a.map
    rw [e, h1] at ha; cases ha
  · exact a.row.ne e ha (by decide) rfl
theorem Lv.modL {o h' : Heap} {p : Nat} {s : Lk} {v : Value} {xs : List Lx} (a : Lv o h p s) (ol : OwnL h v xs) (m : Mod (fun b => blkV v = some b) h h') (hv : ∀ b, blkV v = some b → o.size ≤ b) : Lv o h' p s :=
  ⟨a.lks.mod m (fun b hb e => a.lks.toLkAt.notL ol e hb) (fun x hx e => by
    have := (a.lks.rq x hx).1.1
    exact OwnT.ne ol e this (by decide) rfl), m.ext_from a.ext (fun b hb e => by have := hv b e; omega), a.foot, a.req⟩

/-- What was asked, by numbers. -/
structure RecS (some : List Lx) (s : Lk) : Prop where
  key : ∀ x ∈ s.all, ∃ (k : Nat) (hk : k < some.length), x.key = k ∧ some[k].a = x.r.at_ ∧ some[k].l = x.r.len ∧ some[k].al = x.r.al
  ok : ∀ y ∈ some, y.ok
  id : ∀ k (hk : k < some.length), some[k].id = k
  tk : s.tk = some.length
  len : s.all.length ≤ some.length
theorem RecS.fresh {some : List Lx} {s : Lk} (r : RecS some s) : findS s some.length = none := by
  have hne : ∀ x ∈ s.all, x.key ≠ (some.length : Int) := fun x hx => by
    obtain ⟨k, hk, e, _⟩ := r.key x hx
    omega
  unfold findS
  have h1 : s.H.find? (fun x => decide (x.key = (some.length : Int))) = none := List.find?_eq_none.2 fun x hx => by simpa using hne x (List.mem_append_left _ hx)
  have h2 : s.W.find? (fun x => decide (x.key = (some.length : Int))) = none := List.find?_eq_none.2 fun x hx => by simpa using hne x (List.mem_append_right _ hx)
  rw [h1, h2]
/-- One more is asked. -/
theorem RecS.more {some : List Lx} {s : Lk} {b : Nat} {w' : Value} {a l : Int} {al : Bool} (r : RecS some s) (hm : MayP some.length a l) :
    RecS (some ++ [⟨some.length, a, l, al⟩]) (if couldS s ⟨some.length, a, l, al, s.tk + 1⟩ then { s with H := s.H ++ [⟨some.length, b, ⟨some.length, a, l, al, s.tk + 1⟩⟩], tk := s.tk + 1 } else { s with W := s.W ++ [⟨some.length, b, ⟨some.length, a, l, al, s.tk + 1⟩⟩], w := w', tk := s.tk + 1 }) := by
  have hk : ∀ x, (x ∈ s.all ∨ x = (⟨some.length, b, ⟨some.length, a, l, al, s.tk + 1⟩⟩ : Rb)) → ∃ (k : Nat) (hk : k < (some ++ [(⟨some.length, a, l, al⟩ : Lx)]).length), x.key = k ∧ ((some ++ [(⟨some.length, a, l, al⟩ : Lx)])[k]).a = x.r.at_ ∧ ((some ++ [(⟨some.length, a, l, al⟩ : Lx)])[k]).l = x.r.len ∧ ((some ++ [(⟨some.length, a, l, al⟩ : Lx)])[k]).al = x.r.al := by
    rintro x (hx | rfl)
    · obtain ⟨k, hk, h1, h2⟩ := r.key x hx
      refine ⟨k, by simp; omega, h1, ?_⟩
      rw [List.getElem_append_left hk]
      exact h2
    · refine ⟨some.length, by simp, rfl, ?_⟩
      simp
  have hok : ∀ y ∈ some ++ [(⟨some.length, a, l, al⟩ : Lx)], y.ok := fun y hy => by
    rcases List.mem_append.1 hy with e | e
    · exact r.ok y e
    · simp at e; subst e
      obtain ⟨_, _, h1, h2, h3, h4⟩ := hm
      exact ⟨h1, h2, by dsimp only; omega⟩
  have hid : ∀ k (hk : k < (some ++ [(⟨some.length, a, l, al⟩ : Lx)]).length), ((some ++ [(⟨some.length, a, l, al⟩ : Lx)])[k]).id = k := fun k hk => by
    rcases Nat.lt_or_ge k some.length with e | e
    · rw [List.getElem_append_left e]; exact r.id k e
    · have : k = some.length := by simp at hk; omega
      subst this; simp
  have htk : s.tk + 1 = ((some ++ [(⟨some.length, a, l, al⟩ : Lx)]).length : Int) := by rw [r.tk]; simp
  have hlen := r.len
  split
  · refine ⟨fun x hx => hk x ?_, hok, hid, htk, ?_⟩
    · have := (perm_H (s := s) (x := ⟨some.length, b, ⟨some.length, a, l, al, s.tk + 1⟩⟩) (t := s.tk + 1)).mem_iff.1 hx
      rcases List.mem_cons.1 this with e | e
      · exact .inr e
      · exact .inl e
    · have := (perm_H (s := s) (x := ⟨some.length, b, ⟨some.length, a, l, al, s.tk + 1⟩⟩) (t := s.tk + 1)).length_eq
      rw [this]; simp; omega
  · refine ⟨fun x hx => hk x ?_, hok, hid, htk, ?_⟩
    · have := (perm_W (s := s) (x := ⟨some.length, b, ⟨some.length, a, l, al, s.tk + 1⟩⟩) (w := w') (t := s.tk + 1)).mem_iff.1 hx
      rcases List.mem_cons.1 this with e | e
      · exact .inr e
      · exact .inl e
    · have := (perm_W (s := s) (x := ⟨some.length, b, ⟨some.length, a, l, al, s.tk + 1⟩⟩) (w := w') (t := s.tk + 1)).length_eq
      rw [this]; simp; omega

structure AsI (o g : Heap) (p : Nat) (v : Value) (some : List Lx) (s : Lk) (i : Nat) : Prop where
  lv : Lv o g p s
  rec_ : RecS some s
  own : OwnL g v some
  blk : ∀ b, blkV v = Option.some b → o.size ≤ b
  le : some.length ≤ i

set_option maxHeartbeats 4000000 in
theorem asked_c {o : Heap} {p : Nat} {s : Lk} {v : Value} {xs : List Lx} (hs : Lv o h p s) (hr : RecS [] s) (hv : Lxs o v xs) (hl : xs.length ≤ 100)
    (H : ∀ w some s' h', AsI o h' p w some s' xs.length → K (.tuple #[w, .bool true]) h') : CallsH Try.prog 19 #[ptrV p, v] h K ⟨⟩ := by
  refine n19_calls ?_
  unfold n19
  obtain ⟨o0, c, rfl⟩ := hv.form
  refine loopX2 (α := Nat × Value × List Lx × Lk) (fun a => a.2.1) (fun a => .int .i64 a.1) (fun a g => a.1 ≤ xs.length ∧ AsI o g p a.2.1 a.2.2.1 a.2.2.2 a.1) (fun a => xs.length - a.1) (0, .slice none 0 0, [], s) ⟨rfl, rfl⟩ ⟨by simp, hs, hr, .inl ⟨rfl, rfl⟩, fun b hb => (by cases hb), Nat.le_refl _⟩ ?_
  rintro ⟨i, w, some, s⟩ g ⟨hi, I⟩ X hX
  dsimp only at hi I hX ⊢
  by_cases hin : i < xs.length
  · obtain ⟨a, rfl, -, hc⟩ := hv.some (by omega)
    have hcs := (hv.ext I.lv.ext).cell i hin
    generalize xs[i] = x at hcs
    obtain ⟨xid, xa, xl, xal⟩ := x
    obtain ⟨c0, c1, c2, c3⟩ := hcs
    dsimp only at c0 c1 c2 c3
    obtain ⟨wa, wc, hw, hwc⟩ := I.own.form
    simp (disch := omega)
    refine JoinN_in1 (fun w' g' => ∃ some' s', AsI o g' p w' some' s' (i + 1)) (fun kk hkk => ?_) (fun w' g' hg' => ?_)
    · refine JoinN.mk ?_
      rw [hw]
      simp (disch := omega) [c0, c1, c2, c3]
      refine (fun key => key _ ?_ ?_ : (∀ g0, Ext g g0 → g0[g.size]? = Option.some (.cells #[.int .i64 some.length, .int .i64 xa, .int .i64 xl, .bool xal] 29) → CallsH Try.prog 9 _ g0 _ ⟨⟩) → _) (fun g0 E0 X0 => ?_)
      · exact (by repeat' (first | (with_reducible exact Ext.refl _) | (with_reducible assumption) | (with_reducible refine push_ext ?_) | (with_reducible refine hset_ext ?_ ?_) | (with_reducible refine Ext.trans ?_ (by assumption)) | omega | (simp; done) | (simp; omega) | (refine Ext.size ?_) | (refine Nat.le_succ_of_le (Ext.size ?_))))
      · exact obj_set (obj_set (obj_set (obj_set (obj_set (get_pushed rfl)))))
      rw [← hw]
      refine rMay_c (id := some.length) (a := xa) (l := xl) (al := xal) fun g1 e1 => ?_
      have I1 : AsI o g1 p w some s i := ⟨(I.lv.of_ext E0).of_ext e1, I.rec_, OwnT.ext (OwnT.ext I.own E0) e1, I.blk, I.le⟩
      have X1 : g1[g.size]? = Option.some (.cells #[.int .i64 some.length, .int .i64 xa, .int .i64 xl, .bool xal] 29) := (e1.block _ (get_some_lt X0)).trans X0
      have d0 := cellOf (i := 0) X1 rfl
      have d1 := cellOf (i := 1) X1 rfl
      have d2 := cellOf (i := 2) X1 rfl
      have d3 := cellOf (i := 3) X1 rfl
      by_cases hm : MayP some.length xa xl
      · rw [decide_eq_true hm]
        simp (disch := omega) [d0, d1, d2, d3]
        have htk := I.rec_.tk
        have hle := I.le
        have hln := I.rec_.len
        refine Ask_v (id := some.length) (a := xa) (l := xl) (al := xal) I1.lv hm I.rec_.fresh (by omega) (by omega) fun b3 w' g2 A2 m2 => ?_
        have own2 : OwnL g2 w some := OwnT.mod I1.own m2 (fun b hb e => I1.lv.lks.toLkAt.notL I1.own hb e)
        have X2 : g2[g.size]? = Option.some (.cells #[.int .i64 some.length, .int .i64 xa, .int .i64 xl, .bool xal] 29) := (m2.block _ (get_some_lt X1) (fun e => by have := I.lv.lks.toLkAt.footlt e; omega)).trans X1
        have f0 := cellOf (i := 0) X2 rfl
        have f1 := cellOf (i := 1) X2 rfl
        have f2 := cellOf (i := 2) X2 rfl
        have f3 := cellOf (i := 3) X2 rfl
        simp (disch := omega)
        refine num_c (by omega) (by omega) ?_
        simp (disch := omega) [f0, f1, f2, f3]
        refine own2.push (x := ⟨some.length, xa, xl, xal⟩) (by omega) (by kernel_rfl) fun w3 g3 o3 m3 f3 => ?_
        refine hkk _ _ ⟨_, _, A2.modL own2 m3 I.blk, I.rec_.more hm, o3, fun b hb => (f3 b hb).elim (I.blk b) (fun e => by have := A2.ext.size; omega), by simp; omega⟩
      · rw [decide_eq_false hm]
        simp (disch := omega)
        exact hkk _ _ ⟨some, s, I1.lv, I1.rec_, I1.own, I1.blk, by have := I.le; omega⟩
    · obtain ⟨some', s', I'⟩ := hg'
      simp (disch := omega)
      exact hX (i + 1, w', some', s') _ _ _ rfl (by simp) ⟨hin, I'⟩ (by dsimp only; omega)
  · have : i = xs.length := by omega
    subst this
    simp (disch := omega)
    exact H w some s g I
end Go.Proofs.Ytlligpgjkmfhpaa
