/- What is proved: the law palimpsestlaw23.LocksShare returns true for every input, and its arguments read as they did. No conditions. -/
import Derived.Test.YtlligpgjkmfhpaaRows
import Derived.Test.YtlligpgjkmfhpaaLockOpen
set_option linter.unusedSimpArgs false
set_option linter.unusedVariables false
namespace Go.Proofs.Ytlligpgjkmfhpaa
open Go.Vc
variable {K : Value → Heap → Prop} {h : Heap}

/-- Other Locks stay as they are. -/
theorem Lv.other {o h' : Heap} {p p' : Nat} {s t : Lk} (a : Lv o h p s) (b : Lv o h p' t) (m : Mod (Go.Proofs.Ytlligpgjkmfhpaa.foot p' t) h h') (e : Ext o h') (hp : p ≠ p') (hm : s.m ≠ t.m) (hw : s.w = .slice none 0 0) (hw' : t.w = .slice none 0 0) : Lv o h' p s := by
  refine ⟨a.lks.mod m (fun b' hb hb' => ?_) (fun x hx hb' => ?_), e, a.foot, a.req⟩
  · have c1 := a.lks.cells
    have c2 := b.lks.cells
    obtain ⟨es1, cl1, d1, _⟩ := a.lks.map
    obtain ⟨es2, cl2, d2, _⟩ := b.lks.map
    rcases hb with e1 | e1 | e1 <;> rcases hb' with e2 | e2 | e2
    · exact hp (e1.symm.trans e2)
    · rw [e1.symm.trans e2, d2] at c1; cases c1
    · rw [hw'] at e2; cases e2
    · rw [e2.symm.trans e1, d1] at c2; cases c2
    · exact hm (e1.symm.trans e2)
    · rw [hw'] at e2; cases e2
    · rw [hw] at e1; cases e1
    · rw [hw] at e1; cases e1
    · rw [hw] at e1; cases e1
  · exact b.lks.toLkAt.apart (a.lks.rq x hx).1.1 hb' rfl

structure ShI (o h : Heap) (p p' m m' : Nat) (s t : Lk) (i : Nat) : Prop where
  a : Lv o h p s
  b : Lv o h p' t
  am : s.m = m
  bm : t.m = m'
  aw : s.w = .slice none 0 0
  bw : t.w = .slice none 0 0
  aW : s.W = []
  bW : t.W = []
  atk : s.tk ≤ i
  btk : t.tk ≤ i
  al : s.H.length ≤ i
  bl : t.H.length ≤ i
  sh : ∀ x ∈ s.H, x.key < i ∧ x.r.al = false
  ap : ∀ x ∈ t.H, x.key < i ∧ x.r.at_ + x.r.len ≤ 1000 * i
theorem ShI.up {o h : Heap} {p p' m m' : Nat} {s t : Lk} {i : Nat} (I : ShI o h p p' m m' s t i) : ShI o h p p' m m' s t (i + 1) :=
  ⟨I.a, I.b, I.am, I.bm, I.aw, I.bw, I.aW, I.bW, by have := I.atk; omega, by have := I.btk; omega, by have := I.al; omega, by have := I.bl; omega, fun x hx => by have := I.sh x hx; exact ⟨by omega, this.2⟩, fun x hx => by have := I.ap x hx; omega⟩
theorem ShI.ext {o h h' : Heap} {p p' m m' : Nat} {s t : Lk} {i : Nat} (I : ShI o h p p' m m' s t i) (e : Ext h h') : ShI o h' p p' m m' s t i :=
  ⟨I.a.of_ext e, I.b.of_ext e, I.am, I.bm, I.aw, I.bw, I.aW, I.bW, I.atk, I.btk, I.al, I.bl, I.sh, I.ap⟩
theorem find_ge {s : Lk} {i : Nat} (hW : s.W = []) (hH : ∀ x ∈ s.H, x.key < i) : findS s i = none := by
  unfold findS
  rw [hW]
  have : s.H.find? (fun x => decide (x.key = (i : Int))) = none := List.find?_eq_none.2 fun x hx => by
    have := hH x hx
    simp; omega
  rw [this]
  rfl
theorem could_sh {s : Lk} {r : Rq} (hW : s.W = []) (hr : r.al = false) (hH : ∀ x ∈ s.H, x.r.al = false) : couldS s r = true := by
  unfold couldS
  rw [hW]
  have : s.H.any (fun x => agst r x.r) = false := List.any_eq_false.2 fun x hx => by simp [agst, hr, hH x hx]
  rw [this]; rfl
theorem could_ap {s : Lk} {r : Rq} (hW : s.W = []) (hH : ∀ x ∈ s.H, x.r.at_ + x.r.len ≤ r.at_) : couldS s r = true := by
  unfold couldS
  rw [hW]
  have : s.H.any (fun x => agst r x.r) = false := List.any_eq_false.2 fun x hx => by
    have := hH x hx
    have hn : ¬ ((if r.at_ < x.r.at_ then x.r.at_ else r.at_) < (if x.r.at_ + x.r.len < r.at_ + r.len then x.r.at_ + x.r.len else r.at_ + r.len)) := by split <;> split <;> omega
    simp [agst, hn]
  rw [this]; rfl

set_option maxHeartbeats 4000000 in
theorem LocksShare_c {v : Value} {xs : List Lx} (hv : Lxs h v xs) (hlen : xs.length < 9223372036854775808) (H : ∀ h', Ext h h' → K (.bool true) h') : CallsH Try.prog 4 #[v] h K ⟨⟩ := by
  refine n4_calls ?_
  unfold n4
  obtain ⟨o, c, rfl⟩ := hv.form
  refine New_v (.refl h) fun p s h1 e1 hs1 sH sW sw stk hp1 hm1 => ?_
  refine New_v hs1.ext fun p' t h2 e2 ht2 tH tW tw ttk hp2 hm2 => ?_
  have hs2 := hs1.of_ext e2
  have hpl := get_some_lt hs1.lks.cells
  have hml2 := hs1.lks.map.lt
  unfold ptrV
  simp (disch := omega)
  refine Split.mk (fun hbig => ?_) (fun hsm => ?_)
  · simp (disch := omega)
    refine works_c fun h3 e3 => ?_
    simp (disch := omega)
    exact H _ (ht2.ext.trans e3)
  · simp (disch := omega)
    have I0 : ShI h h2 p p' s.m t.m s t 0 := ⟨hs2, ht2, rfl, rfl, sw, tw, sW, tW, by omega, by omega, by simp [sH], by simp [tH], fun x hx => (by rw [sH] at hx; cases hx), fun x hx => (by rw [tH] at hx; cases hx)⟩
    refine loopA1 (α := Nat × Lk × Lk) (fun a => .int .i64 a.1) (fun a g => a.1 ≤ xs.length ∧ ShI h g p p' s.m t.m a.2.1 a.2.2 a.1) (fun a => xs.length - a.1) (0, s, t) rfl ⟨by simp, I0⟩ ?_
    rintro ⟨i, s1, t1⟩ g ⟨hi, I⟩
    dsimp only at hi I ⊢
    by_cases hin : i = xs.length
    · simp (disch := omega) [hin]
      refine Len_c I.a.lks.toLkAt ?_
      simp (disch := omega)
      refine Len_c I.b.lks.toLkAt ?_
      rw [I.aW, I.bW]
      simp (disch := omega)
      refine works_c fun h3 e3 => ?_
      simp (disch := omega)
      exact H _ (I.a.ext.trans e3)
    · have hil : i < xs.length := by omega
      obtain ⟨a, rfl, -, hc⟩ := hv.some (by omega)
      have hcs := (hv.ext I.a.ext).cell i hil
      generalize xs[i] = x at hcs
      obtain ⟨xid, xa, xl, xal⟩ := x
      obtain ⟨c0, c1, c2, c3⟩ := hcs
      dsimp only at c0 c1 c2 c3
      simp (disch := omega)
      refine JoinN_in0 (fun g' => ∃ s2 t2, ShI h g' p p' s.m t.m s2 t2 (i + 1)) (fun kk hkk => ?_) (fun g' hg' => ?_)
      · refine JoinN.mk ?_
        simp (disch := omega) [c0, c1, c2, c3]
        refine (fun key => key _ ?_ ?_ : (∀ g0, Ext g g0 → g0[g.size]? = some (.cells #[.int .i64 i, .int .i64 xa, .int .i64 xl, .bool false] 29) → CallsH Try.prog 9 _ g0 _ ⟨⟩) → _) (fun g0 E0 X0 => ?_)
        · exact (by repeat' (first | (with_reducible exact Ext.refl _) | (with_reducible assumption) | (with_reducible refine push_ext ?_) | (with_reducible refine hset_ext ?_ ?_) | (with_reducible refine Ext.trans ?_ (by assumption)) | omega | (simp; done) | (simp; omega) | (refine Ext.size ?_) | (refine Nat.le_succ_of_le (Ext.size ?_))))
        · exact obj_set (obj_set (obj_set (obj_set (obj_set (obj_set (get_pushed rfl))))))
        refine rMay_c (id := i) (a := xa) (l := xl) (al := false) fun g1 e1' => ?_
        have I1 := (I.ext E0).ext e1'
        have X1 : g1[g.size]? = some (.cells #[.int .i64 i, .int .i64 xa, .int .i64 xl, .bool false] 29) := (e1'.block _ (get_some_lt X0)).trans X0
        have d0 := cellOf (i := 0) X1 rfl
        have d1 := cellOf (i := 1) X1 rfl
        have d2 := cellOf (i := 2) X1 rfl
        have d3 := cellOf (i := 3) X1 rfl
        by_cases hm : MayP i xa xl
        · rw [decide_eq_true hm]
          simp (disch := omega) [d0, d1, d2, d3]
          have tk1 := I1.atk
          have tk2 := I1.btk
          have l1 := I1.al
          have l2 := I1.bl
          have z1 := I1.a.lks.tkb.1
          have z2 := I1.b.lks.tkb.1
          refine Ask_y (id := i) (a := xa) (l := xl) (al := false) I1.a hm (find_ge I1.aW fun x hx => (I1.sh x hx).1) (by unfold Lk.all; rw [I1.aW]; simp; omega) (by omega) (could_sh I1.aW rfl fun x hx => (I1.sh x hx).2) fun b3 g2 A2 m2 => ?_
          have B2 := I1.b.other I1.a m2 A2.ext (by omega) (by rw [I1.am, I1.bm]; omega) I1.bw I1.aw
          have X2 : g2[g.size]? = some (.cells #[.int .i64 i, .int .i64 xa, .int .i64 xl, .bool false] 29) := (m2.block _ (get_some_lt X1) (fun e => by have := I.a.lks.toLkAt.footlt e; omega)).trans X1
          have f2 := cellOf (i := 2) X2 rfl
          simp (disch := omega)
          refine num_c (by omega) (by omega) ?_
          have hr0 : 0 ≤ xl % 1001 := Int.emod_nonneg _ (by omega)
          have hr1 : xl % 1001 < 1001 := Int.emod_lt_of_pos _ (by omega)
          obtain ⟨hm0, hm1, hm2, hm3, hm4, hm5⟩ := hm
          simp (disch := omega) [f2]
          refine Ask_y (id := i) (a := i * 1000) (l := xl % 1001) (al := true) (B2.of_ext (by repeat' (first | (with_reducible exact Ext.refl _) | (with_reducible assumption) | (with_reducible refine push_ext ?_) | (with_reducible refine hset_ext ?_ ?_) | (with_reducible refine Ext.trans ?_ (by assumption)) | omega | (simp; done) | (simp; omega) | (refine Ext.size ?_) | (refine Nat.le_succ_of_le (Ext.size ?_))))) ⟨by omega, by omega, by omega, by omega, by omega, by omega⟩ (find_ge I1.bW fun x hx => (I1.ap x hx).1) (by unfold Lk.all; rw [I1.bW]; simp; omega) (by omega) (could_ap I1.bW fun x hx => by have := (I1.ap x hx).2; show _ ≤ (i : Int) * 1000; omega) fun b4 g3 B3 m3 => ?_
          have A3 := (A2.of_ext (by repeat' (first | (with_reducible exact Ext.refl _) | (with_reducible assumption) | (with_reducible refine push_ext ?_) | (with_reducible refine hset_ext ?_ ?_) | (with_reducible refine Ext.trans ?_ (by assumption)) | omega | (simp; done) | (simp; omega) | (refine Ext.size ?_) | (refine Nat.le_succ_of_le (Ext.size ?_))))).other (B2.of_ext (by repeat' (first | (with_reducible exact Ext.refl _) | (with_reducible assumption) | (with_reducible refine push_ext ?_) | (with_reducible refine hset_ext ?_ ?_) | (with_reducible refine Ext.trans ?_ (by assumption)) | omega | (simp; done) | (simp; omega) | (refine Ext.size ?_) | (refine Nat.le_succ_of_le (Ext.size ?_))))) m3 B3.ext (by omega) (by dsimp only; rw [I1.am, I1.bm]; omega) I1.aw I1.bw
          simp (disch := omega)
          refine num_c (by omega) (by omega) ?_
          simp (disch := omega)
          refine hkk _ ⟨_, _, ⟨A3, B3, I1.am, I1.bm, I1.aw, I1.bw, I1.aW, I1.bW, by dsimp only; omega, by dsimp only; omega, by simpa using l1, by simpa using l2, fun x hx => ?_, fun x hx => ?_⟩⟩
          · rcases List.mem_append.1 hx with e | e
            · have := I1.sh x e; exact ⟨by omega, this.2⟩
            · simp at e; subst e; exact ⟨by dsimp only; omega, rfl⟩
          · rcases List.mem_append.1 hx with e | e
            · have := I1.ap x e; omega
            · simp at e; subst e; dsimp only; omega
        · rw [decide_eq_false hm]
          simp (disch := omega)
          exact hkk _ ⟨s1, t1, I1.up⟩
      · obtain ⟨s2, t2, I2⟩ := hg'
        simp (disch := omega)
        exact ⟨i + 1, by omega, ⟨by omega, s2, t2, I2⟩, by omega⟩
end Go.Proofs.Ytlligpgjkmfhpaa
namespace Go.Proofs.Ytlligpgjkmfhpaa.locksShare
open Go.ChangeShapes Go.WideShapes Go.ChangeAt Go.RowKit Go.Joins Go.Vc

theorem own : ownKnob Try.prog.godebug = none := by kernel_rfl
theorem laidOut : laidOutB Try.prog = true := by kernel_rfl

set_option maxRecDepth 100000 in
set_option maxHeartbeats 1000000 in
theorem lifted (os : Os) (started : os.Started) (H : Type) (enc : TypeId × Value → H) :
    ReturnsInHanded {} Try.checked os 4 .any (Rows.locksShareSpec.pre6 enc Try.prog Try.f4 Rows.locksShareRow.domain false) (Rows.locksShareSpec.post enc Try.prog Try.f4 false true false false) := by
  refine returnsInHanded_of_change (C := Try.checked) own started (by kernel_rfl) Try.func4
    (ChangeSpec.witness6 (enc := enc) (C := Try.checked) false ⟨#[], #[.slice none 0 0], []⟩ 8 (by kernel_rfl) (by kernel_rfl) (by kernel_rfl) (by kernel_rfl)) ?_
  intro W base args ds gs before hval0 hW hcnd _
  have hval : ∀ (j : Nat) t v, Try.f4.params[j]? = some t → args[j]? = some v → Value.okWide Try.prog W .any base t v := hval0
  have hW' := hW
  obtain ⟨p, q, hA0, hV, rfl, hfz, hnd⟩ := hW
  have hA : DataW.TrodAll enc Try.prog W 0 (fun _ => true) true Try.f4.params.toList args.toList ds p := hA0
  rw [Try.params4] at hA hval
  obtain ⟨v0, vs0, d0, ds0, p0, q0, hargs, rfl, rfl, h0, r0⟩ := trodAll_cons hA
  obtain ⟨rfl, rfl, rfl⟩ := trodAll_nil r0
  obtain rfl : args = #[v0] := by cases args; simp_all
  obtain ⟨xs, hxs, hml⟩ := open_locks (hval 0 22 v0 rfl rfl) h0
  refine ((LocksShare_c (h := W.heap) hxs (Nat.lt_of_le_of_lt hml (by decide)) (K := fun v h' => v = .bool true ∧ Ext W.heap h') (fun h' e => ⟨rfl, e⟩)).out W rfl).mono fun e W' ⟨v, he, hs, hv, hx⟩ => ?_
  exact ⟨v, he, hv ▸ law_post laidOut (by kernel_rfl) rfl (tb := 4) (by kernel_rfl) (by kernel_rfl) hW' (fun hg => by rw [hg]; rfl) (below_of hs hx)⟩

theorem proved : Rows.LocksShareSaid :=
  OpenClaim.holds_of_wide 4 Try.f4 rfl rfl rfl rfl rfl rfl rfl ⟨rfl, rfl, rfl, rfl, rfl⟩ rfl rfl rfl rfl rfl (by kernel_rfl) Try.func4 (by kernel_rfl)
    (of_decide_eq_true (by kernel_rfl)) (by unfold Func.isWrapper; first | (rw [if_pos (by decide +kernel)]; kernel_rfl) | (rw [if_neg (by decide +kernel)]; exact ⟨rfl, rfl⟩))
    (fun os started H enc _ => lifted os started H enc)
end Go.Proofs.Ytlligpgjkmfhpaa.locksShare
