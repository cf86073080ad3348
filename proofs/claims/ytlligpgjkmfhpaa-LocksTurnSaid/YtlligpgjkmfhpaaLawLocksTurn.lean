/- What is proved: the law palimpsestlaw23.LocksTurn returns true for every input, and its arguments read as they did. No conditions. -/
import Derived.Test.YtlligpgjkmfhpaaRows
import Derived.Test.YtlligpgjkmfhpaaLockOpen
set_option linter.unusedSimpArgs false
set_option linter.unusedVariables false
namespace Go.Proofs.Ytlligpgjkmfhpaa
open Go.Vc
variable {K : Value → Heap → Prop} {h : Heap}

theorem obj_ne {b i c : Nat} {o : Obj} {v : Value} (hb : h[b]? = some o) (hne : c ≠ b) : (hset h ⟨c, i, none⟩ v)[b]? = some o := ((Mod.set h ⟨c, i, none⟩ v).block b (get_some_lt hb) (fun e => hne e.symm)).trans hb
/-- Over the same bytes? -/
def meetP (a1 l1 a2 l2 : Int) : Prop := (if a1 < a2 then a2 else a1) < (if a2 + l2 < a1 + l1 then a2 + l2 else a1 + l1)
instance {a1 l1 a2 l2 : Int} : Decidable (meetP a1 l1 a2 l2) := by unfold meetP; exact inferInstance
theorem meet_comm {a1 l1 a2 l2 : Int} : meetP a1 l1 a2 l2 ↔ meetP a2 l2 a1 l1 := by
  unfold meetP
  constructor <;> intro h <;> (repeat' split at h) <;> (repeat' split) <;> omega
theorem lv_ne {o : Heap} {p : Nat} {s : Lk} {x y : Rb} {r : List Rb} (a : Lv o h p s) (e : s.H = x :: y :: r) : ¬ y.b = x.b := fun e2 => by
  have := a.lks.blks
  unfold Lk.all at this
  rw [e] at this
  simp [e2] at this

theorem Up_yes {o : Heap} {p m : Nat} {W : List Rb} {w : Value} {n tk : Int} {x : Rb} {H : List Rb} (hs : Lv o h p ⟨m, x :: H, W, w, tk⟩) (hk : x.key = n) (h0 : 0 ≤ n) (h1 : n < 4096) (ha : ∀ y ∈ H, agst (x.r.set true) y.r = false)
    (K1 : ∀ h', Lv o h' p ⟨m, ⟨x.key, x.b, x.r.set true⟩ :: H, W, w, tk⟩ → K (.int .i64 0) h') : CallsH Try.prog 16 #[ptrV p, .int .i64 n] h K ⟨⟩ := by
  have hf : findS ⟨m, x :: H, W, w, tk⟩ n = some (x, false) := by unfold findS; simp [hk]
  have hn : (((x :: H).any fun y => !decide (y.b = x.b) && agst (x.r.set true) y.r)) = false := by
    rw [List.any_eq_false]
    intro y hy
    rcases List.mem_cons.1 hy with e | e
    · simp [e]
    · simp [ha y e]
  refine Upgrade_c hs.lks h0 h1 hf (fun e => by rw [hn] at e; cases e) fun _ h' a1 a2 => ?_
  have e : setAl ⟨m, x :: H, W, w, tk⟩ n true = ⟨m, ⟨x.key, x.b, x.r.set true⟩ :: H, W, w, tk⟩ := by
    unfold setAl
    have k := hs.lks.keys
    unfold Lk.all at k
    have hx : Rb.set n true x = ⟨x.key, x.b, x.r.set true⟩ := by unfold Rb.set; rw [if_pos hk]
    have hH : H.map (Rb.set n true) = H := by
      conv => rhs; rw [← List.map_id H]
      refine List.map_congr_left fun y hy => ?_
      unfold Rb.set
      rw [if_neg]; rfl
      intro e
      simp at k
      exact k.1.1 y hy (e.trans hk.symm)
    simp [hx, hH]
  rw [e] at a1
  refine K1 h' ⟨a1, a2.ext_from hs.ext (fun b hb e => by have := hs.req x (by simp [Lk.all]); omega), hs.foot, fun y hy => ?_⟩
  simp [Lk.all] at hy
  rcases hy with e | e | e
  · subst e; exact hs.req x (by simp [Lk.all])
  · exact hs.req y (by simp [Lk.all, e])
  · exact hs.req y (by simp [Lk.all, e])

theorem Upgrade_v {o : Heap} {p : Nat} {s : Lk} {n : Int} {x : Rb} (hs : Lv o h p s) (h0 : 0 ≤ n) (h1 : n < 4096) (hf : findS s n = some (x, false))
    (H1 : (s.H.any fun y => !decide (y.b = x.b) && agst (x.r.set true) y.r) = true → ∀ h', Lv o h' p s → K (.int .i64 10) h')
    (H2 : (s.H.any fun y => !decide (y.b = x.b) && agst (x.r.set true) y.r) = false → ∀ h', Lv o h' p (setAl s n true) → K (.int .i64 0) h') : CallsH Try.prog 16 #[ptrV p, .int .i64 n] h K ⟨⟩ := by
  have hb : (setAl s n true).all.map (·.b) = s.all.map (·.b) := by
    unfold setAl Lk.all
    simp only [List.map_append, List.map_map]
    congr 1
    exact List.map_congr_left fun y _ => Rb.set_b
  refine Upgrade_c hs.lks h0 h1 hf (fun e h' a1 => H1 e h' (hs.of_ext a1)) (fun e h' a1 a2 => H2 e h' ⟨a1, a2.ext_from hs.ext (fun b hb e => by have := hs.req x (List.mem_append_left _ (findS_held hf).1); omega), hs.foot, fun y hy => ?_⟩)
  have : y.b ∈ s.all.map (·.b) := hb ▸ List.mem_map_of_mem hy
  obtain ⟨z, hz, e⟩ := List.mem_map.1 this
  rw [← e]; exact hs.req z hz
theorem Downgrade_v {o : Heap} {p : Nat} {s : Lk} {n : Int} {x : Rb} (hs : Lv o h p s) (h0 : 0 ≤ n) (h1 : n < 4096) (hf : findS s n = some (x, false))
    (H : ∀ L lv ov h', L.Perm s.W → L.Pairwise (fun x y => x.r.tk ≤ y.r.tk) → Lv o h' p { s with H := (goF (setAl s n false).H L).1, W := (goF (setAl s n false).H L).2.1, w := lv } → OwnT 3 1 h' ov ((goF (setAl s n false).H L).2.2.map (.int .i64)) →
      Mod (fun b => b = x.b ∨ Go.Proofs.Ytlligpgjkmfhpaa.foot p s b) h h' → (∀ b, blkV ov = some b → h.size ≤ b) → K (.tuple #[ov, .int .i64 0]) h') :
    CallsH Try.prog 18 #[ptrV p, .int .i64 n] h K ⟨⟩ := by
  have ho := hs.ext.size
  have hxa := hs.req x (List.mem_append_left _ (findS_held hf).1)
  have hb : (setAl s n false).all.map (·.b) = s.all.map (·.b) := by
    unfold setAl Lk.all
    simp only [List.map_append, List.map_map]
    congr 1
    exact List.map_congr_left fun y _ => Rb.set_b
  refine Downgrade_c hs.lks h0 h1 hf fun L lv ov h' a1 a2 a3 a4 a5 a6 a7 => H L lv ov h' a1 a2 ⟨a3, a5.ext_from hs.ext (fun b hb hf => ?_), ?_, fun y hy => ?_⟩ a4 a5 a7
  · rcases hf with e | e
    · omega
    · have := hs.foot b e; omega
  · rintro b (e | e | e)
    · exact hs.foot b (.inl e)
    · exact hs.foot b (.inr (.inl e))
    · have := a6 b e; omega
  · have hy2 : y ∈ (setAl s n false).all := by
      rcases List.mem_append.1 (goF_all.1 hy) with e | e
      · exact List.mem_append_left _ e
      · exact List.mem_append_right _ (a1.mem_iff.1 e)
    have : y.b ∈ s.all.map (·.b) := hb ▸ List.mem_map_of_mem hy2
    obtain ⟨z, hz, e⟩ := List.mem_map.1 this
    rw [← e]; exact hs.req z hz
set_option maxHeartbeats 4000000 in
theorem LocksTurn_c {i1 a1 l1 i2 a2 l2 : Int} {b1 b2 : Bool} (H : ∀ h', Ext h h' → K (.bool true) h') : CallsH Try.prog 5 #[lockV i1 a1 l1 b1, lockV i2 a2 l2 b2] h K ⟨⟩ := by
  refine n5_calls ?_
  unfold n5 lockV
  simp (disch := omega)
  have P1 : ((h.push (.cells #[.int .i64 i1, .int .i64 a1, .int .i64 l1, .bool b1] 29)).push (.cells #[.int .i64 i2, .int .i64 a2, .int .i64 l2, .bool b2] 29))[h.size]? = some (.cells #[.int .i64 i1, .int .i64 a1, .int .i64 l1, .bool b1] 29) := by rw [get_push (by simp)]; exact get_pushed rfl
  have P2 : ((h.push (.cells #[.int .i64 i1, .int .i64 a1, .int .i64 l1, .bool b1] 29)).push (.cells #[.int .i64 i2, .int .i64 a2, .int .i64 l2, .bool b2] 29))[h.size + 1]? = some (.cells #[.int .i64 i2, .int .i64 a2, .int .i64 l2, .bool b2] 29) := get_pushed (by simp)
  refine (fun key => key _ ?_ ?_ ?_ : (∀ g0, Ext h g0 → g0[h.size]? = some (.cells #[.int .i64 1, .int .i64 a1, .int .i64 l1, .bool false] 29) → g0[h.size + 1]? = some (.cells #[.int .i64 2, .int .i64 a2, .int .i64 l2, .bool false] 29) → CallsH Try.prog 8 _ g0 _ ⟨⟩) → _) (fun g0 E0 X0 Y0 => ?_)
  · exact (by repeat' (first | (with_reducible exact Ext.refl _) | (with_reducible assumption) | (with_reducible refine push_ext ?_) | (with_reducible refine hset_ext ?_ ?_) | (with_reducible refine Ext.trans ?_ (by assumption)) | omega | (simp; done) | (simp; omega) | (refine Ext.size ?_) | (refine Nat.le_succ_of_le (Ext.size ?_))))
  · exact (obj_ne (obj_set (obj_ne (obj_set P1) (by omega))) (by omega))
  · exact (obj_set (obj_ne (obj_set (obj_ne P2 (by omega))) (by omega)))
  have x0 := cellOf (i := 0) X0 rfl
  have x1 := cellOf (i := 1) X0 rfl
  have x2 := cellOf (i := 2) X0 rfl
  have x3 := cellOf (i := 3) X0 rfl
  have y0 := cellOf (i := 0) Y0 rfl
  have y1 := cellOf (i := 1) Y0 rfl
  have y2 := cellOf (i := 2) Y0 rfl
  have y3 := cellOf (i := 3) Y0 rfl
  have lx : ∀ {g} (e : Ext g0 g), hcell g ⟨h.size, 0, none⟩ = some (.int .i64 1) ∧ hcell g ⟨h.size, 1, none⟩ = some (.int .i64 a1) ∧ hcell g ⟨h.size, 2, none⟩ = some (.int .i64 l1) ∧ hcell g ⟨h.size, 3, none⟩ = some (.bool false) := fun e => ⟨hcell_ext e x0, hcell_ext e x1, hcell_ext e x2, hcell_ext e x3⟩
  have ly : ∀ {g} (e : Ext g0 g), hcell g ⟨h.size + 1, 0, none⟩ = some (.int .i64 2) ∧ hcell g ⟨h.size + 1, 1, none⟩ = some (.int .i64 a2) ∧ hcell g ⟨h.size + 1, 2, none⟩ = some (.int .i64 l2) ∧ hcell g ⟨h.size + 1, 3, none⟩ = some (.bool false) := fun e => ⟨hcell_ext e y0, hcell_ext e y1, hcell_ext e y2, hcell_ext e y3⟩
  have fin : ∀ {g K'}, Ext g0 g → (∀ g', Ext h g' → K' (.bool true) g') → CallsH Try.prog 7 #[] g K' ⟨⟩ := fun e HK => works_c fun g' e' => HK g' ((E0.trans e).trans e')
  clear X0 Y0 x0 x1 x2 x3 y0 y1 y2 y3
  refine New_v (.refl g0) fun p s h1 e1 hs1 sH sW sw stk _ _ => ?_
  obtain ⟨m, H0, W0, w0, tk0⟩ := s
  dsimp only at sH sW sw stk
  subst sH; subst sW; subst sw; subst stk
  unfold ptrV
  simp (disch := omega) [lx hs1.ext]
  refine rMay_c (id := 1) (a := a1) (l := l1) (al := false) fun h2 e2 => ?_
  by_cases m1 : MayP 1 a1 l1
  · rw [decide_eq_true m1]
    have hs2 := hs1.of_ext e2
    simp (disch := omega) [ly hs2.ext]
    refine rMay_c (id := 2) (a := a2) (l := l2) (al := false) fun h3 e3 => ?_
    have hs3 := hs2.of_ext e3
    by_cases m2 : MayP 2 a2 l2
    · rw [decide_eq_true m2]
      have m1' := m1
      have m2' := m2
      obtain ⟨_, _, p1, p2, p3, p4⟩ := m1'
      obtain ⟨_, _, q1, q2, q3, q4⟩ := m2'
      simp (disch := omega) [lx hs3.ext, ly hs3.ext, Hp_max2, Hp_min2]
      have sh : agst ⟨2, a2, l2, false, 2⟩ ⟨1, a1, l1, false, 1⟩ = false := rfl
      have up : ∀ t, agst ⟨1, a1, l1, true, 1⟩ ⟨2, a2, l2, false, t⟩ = decide (meetP a1 l1 a2 l2) := fun t => rfl
      have dn : ∀ t, agst ⟨2, a2, l2, false, t⟩ ⟨1, a1, l1, true, 1⟩ = decide (meetP a1 l1 a2 l2) := fun t => by
        have : agst ⟨2, a2, l2, false, t⟩ ⟨1, a1, l1, true, 1⟩ = decide (meetP a2 l2 a1 l1) := rfl
        rw [this]; exact decide_eq_decide.2 meet_comm
      refine Split.mk (fun hm => ?_) (fun hm => ?_)
      · have hm' : meetP a1 l1 a2 l2 := hm
        simp (disch := omega) [lx hs3.ext]
        refine Ask_y (id := 1) (a := a1) (l := l1) (al := false) hs3 m1 rfl (by simp [Lk.all]) (by show (0 : Int) + 1 < 100000; decide) rfl fun b3 h4 hs4 m4 => ?_
        have hs4' : Lv g0 h4 p ⟨m, [⟨1, b3, ⟨1, a1, l1, false, 1⟩⟩], [], .slice none 0 0, 1⟩ := hs4
        simp (disch := omega) [ly hs4.ext]
        refine Ask_y (id := 2) (a := a2) (l := l2) (al := false) hs4' m2 rfl (by simp [Lk.all]) (by show (1 : Int) + 1 < 100000; decide) rfl fun b4 h5 hs5 m5 => ?_
        have hs5' : Lv g0 h5 p ⟨m, [⟨1, b3, ⟨1, a1, l1, false, 1⟩⟩, ⟨2, b4, ⟨2, a2, l2, false, 2⟩⟩], [], .slice none 0 0, 2⟩ := hs5
        simp (disch := omega)
        iterate 2 (refine num_c (by omega) (by omega) ?_; try simp (disch := omega))
        refine Upgrade_c (n := 1) hs5'.lks (by decide) (by decide) rfl (fun _ h6 e6 => ?_) (fun hn => ?_)
        · have hs6' := hs5'.of_ext e6
          refine num_c (by omega) (by omega) ?_
          simp (disch := omega)
          refine Done_v (n := 2) hs6' (by decide) (by decide) rfl fun L lv ov h7 a1_ a2_ hs7 ov7 m7 ob7 => ?_
          have hL : L = [] := List.perm_nil.1 a1_
          subst hL
          have hs7' : Lv g0 h7 p ⟨m, [⟨1, b3, ⟨1, a1, l1, false, 1⟩⟩], [], lv, 2⟩ := hs7
          have ov7' : OwnT 3 1 h7 ov [] := ov7
          obtain ⟨q1_, n1_, z1_, e1', hn1, hz1, -⟩ := ov7'.form (by omega)
          have k1 : n1_ = 0 := by simpa using hn1.symm
          rw [k1] at e1'
          simp (disch := omega) [e1']
          refine num_c (by omega) (by omega) ?_
          simp (disch := omega)
          refine Up_yes (n := 1) hs7' rfl (by decide) (by decide) (fun y hy => by cases hy) fun h8 hs8 => ?_
          have hs8' : Lv g0 h8 p ⟨m, [⟨1, b3, ⟨1, a1, l1, true, 1⟩⟩], [], lv, 2⟩ := hs8
          simp (disch := omega)
          refine num_c (by omega) (by omega) ?_
          simp (disch := omega)
          refine Up_yes (n := 1) hs8' rfl (by decide) (by decide) (fun y hy => by cases hy) fun h9 hs9 => ?_
          have hs9' : Lv g0 h9 p ⟨m, [⟨1, b3, ⟨1, a1, l1, true, 1⟩⟩], [], lv, 2⟩ := hs9
          simp (disch := omega)
          refine num_c (by omega) (by omega) ?_
          simp (disch := omega) [ly hs9'.ext]
          refine Ask_n (id := 2) (a := a2) (l := l2) (al := false) hs9' m2 rfl (by simp [Lk.all]) (by show (2 : Int) + 1 < 100000; decide) (by unfold couldS; simp [dn, hm']) fun b5 w5 h10 hs10 m10 => ?_
          have hs10' : Lv g0 h10 p ⟨m, [⟨1, b3, ⟨1, a1, l1, true, 1⟩⟩], [⟨2, b5, ⟨2, a2, l2, false, 3⟩⟩], w5, 3⟩ := hs10
          simp (disch := omega)
          refine num_c (by omega) (by omega) ?_
          simp (disch := omega)
          refine Downgrade_v (n := 1) hs10' (by decide) (by decide) rfl fun L2 lv2 ov2 h11 a3_ a4_ hs11 ov11 m11 ob11 => ?_
          have hL2 : L2 = [⟨2, b5, ⟨2, a2, l2, false, 3⟩⟩] := List.perm_singleton.1 a3_
          subst hL2
          have hs11' : Lv g0 h11 p ⟨m, [⟨1, b3, ⟨1, a1, l1, false, 1⟩⟩, ⟨2, b5, ⟨2, a2, l2, false, 3⟩⟩], [], lv2, 3⟩ := hs11
          have ov11' : OwnT 3 1 h11 ov2 [.int .i64 2] := ov11
          obtain ⟨q2_, n2_, z2_, e2', hn2, hz2, hne2⟩ := ov11'.form (by omega)
          have k2 : n2_ = 1 := by simpa using hn2.symm
          rw [k2] at e2'
          obtain ⟨bb, hb⟩ := hne2 (by simp)
          rw [hb] at e2'
          have hc := e2' ▸ ov11'
          have hcl : hcell h11 ⟨bb, 0, none⟩ = some (.int .i64 2) := (hc.cell (i := 0) (by simp)).1
          simp (disch := omega) [e2']
          refine num_c (by omega) (by omega) ?_
          simp (disch := omega) [e2', hcl]
          refine Len_c hs11'.lks.toLkAt ?_
          simp (disch := omega)
          exact fin hs11'.ext fun g' e' => by simp; exact H g' e'
        · exfalso
          have := lv_ne hs5' rfl
          simp [this, Rq.set, up, hm'] at hn
      · have hm' : ¬ meetP a1 l1 a2 l2 := hm
        simp (disch := omega) [lx hs3.ext]
        refine Ask_y (id := 1) (a := a1) (l := l1) (al := false) hs3 m1 rfl (by simp [Lk.all]) (by show (0 : Int) + 1 < 100000; decide) rfl fun b3 h4 hs4 m4 => ?_
        have hs4' : Lv g0 h4 p ⟨m, [⟨1, b3, ⟨1, a1, l1, false, 1⟩⟩], [], .slice none 0 0, 1⟩ := hs4
        simp (disch := omega) [ly hs4.ext]
        refine Ask_y (id := 2) (a := a2) (l := l2) (al := false) hs4' m2 rfl (by simp [Lk.all]) (by show (1 : Int) + 1 < 100000; decide) rfl fun b4 h5 hs5 m5 => ?_
        have hs5' : Lv g0 h5 p ⟨m, [⟨1, b3, ⟨1, a1, l1, false, 1⟩⟩, ⟨2, b4, ⟨2, a2, l2, false, 2⟩⟩], [], .slice none 0 0, 2⟩ := hs5
        simp (disch := omega)
        iterate 2 (refine num_c (by omega) (by omega) ?_; try simp (disch := omega))
        refine Upgrade_v (n := 1) hs5' (by decide) (by decide) rfl (fun hn => ?_) (fun _ h6 hs6 => ?_)
        · exfalso
          have := lv_ne hs5' rfl
          simp [this, Rq.set, up, hm'] at hn
        · have hs6' : Lv g0 h6 p ⟨m, [⟨1, b3, ⟨1, a1, l1, true, 1⟩⟩, ⟨2, b4, ⟨2, a2, l2, false, 2⟩⟩], [], .slice none 0 0, 2⟩ := hs6
          refine num_c (by omega) (by omega) ?_
          simp (disch := omega)
          refine Done_v (n := 2) hs6' (by decide) (by decide) rfl fun L lv ov h7 a1_ a2_ hs7 ov7 m7 ob7 => ?_
          have hL : L = [] := List.perm_nil.1 a1_
          subst hL
          have hs7' : Lv g0 h7 p ⟨m, [⟨1, b3, ⟨1, a1, l1, true, 1⟩⟩], [], lv, 2⟩ := hs7
          have ov7' : OwnT 3 1 h7 ov [] := ov7
          obtain ⟨q1_, n1_, z1_, e1', hn1, hz1, -⟩ := ov7'.form (by omega)
          have k1 : n1_ = 0 := by simpa using hn1.symm
          rw [k1] at e1'
          simp (disch := omega) [e1']
          refine num_c (by omega) (by omega) ?_
          simp (disch := omega)
          refine Up_yes (n := 1) hs7' rfl (by decide) (by decide) (fun y hy => by cases hy) fun h8 hs8 => ?_
          have hs8' : Lv g0 h8 p ⟨m, [⟨1, b3, ⟨1, a1, l1, true, 1⟩⟩], [], lv, 2⟩ := hs8
          simp (disch := omega)
          refine num_c (by omega) (by omega) ?_
          simp (disch := omega)
          refine Up_yes (n := 1) hs8' rfl (by decide) (by decide) (fun y hy => by cases hy) fun h9 hs9 => ?_
          have hs9' : Lv g0 h9 p ⟨m, [⟨1, b3, ⟨1, a1, l1, true, 1⟩⟩], [], lv, 2⟩ := hs9
          simp (disch := omega)
          refine num_c (by omega) (by omega) ?_
          simp (disch := omega) [ly hs9'.ext]
          refine Ask_y (id := 2) (a := a2) (l := l2) (al := false) hs9' m2 rfl (by simp [Lk.all]) (by show (2 : Int) + 1 < 100000; decide) (by unfold couldS; simp [dn, hm']) fun b5 h10 hs10 m10 => ?_
          have hs10' : Lv g0 h10 p ⟨m, [⟨1, b3, ⟨1, a1, l1, true, 1⟩⟩, ⟨2, b5, ⟨2, a2, l2, false, 3⟩⟩], [], lv, 3⟩ := hs10
          simp (disch := omega)
          refine num_c (by omega) (by omega) ?_
          simp (disch := omega)
          refine Downgrade_v (n := 1) hs10' (by decide) (by decide) rfl fun L2 lv2 ov2 h11 a3_ a4_ hs11 ov11 m11 ob11 => ?_
          have hL2 : L2 = [] := List.perm_nil.1 a3_
          subst hL2
          have hs11' : Lv g0 h11 p ⟨m, [⟨1, b3, ⟨1, a1, l1, false, 1⟩⟩, ⟨2, b5, ⟨2, a2, l2, false, 3⟩⟩], [], lv2, 3⟩ := hs11
          have ov11' : OwnT 3 1 h11 ov2 [] := ov11
          obtain ⟨q2_, n2_, z2_, e2', hn2, hz2, -⟩ := ov11'.form (by omega)
          have k2 : n2_ = 0 := by simpa using hn2.symm
          rw [k2] at e2'
          simp (disch := omega) [e2']
          refine num_c (by omega) (by omega) ?_
          simp (disch := omega) [e2']
          refine Len_c hs11'.lks.toLkAt ?_
          simp (disch := omega)
          exact fin hs11'.ext fun g' e' => by simp; exact H g' e'
    · rw [decide_eq_false m2]
      simp (disch := omega)
      exact fin hs3.ext fun g' e' => by simp; exact H g' e'
  · rw [decide_eq_false m1]
    simp (disch := omega)
    exact fin (hs1.of_ext e2).ext fun g' e' => by simp; exact H g' e'
end Go.Proofs.Ytlligpgjkmfhpaa
namespace Go.Proofs.Ytlligpgjkmfhpaa.locksTurn
open Go.ChangeShapes Go.WideShapes Go.ChangeAt Go.RowKit Go.Joins Go.Vc

theorem own : ownKnob Try.prog.godebug = none := by kernel_rfl
theorem laidOut : laidOutB Try.prog = true := by kernel_rfl

set_option maxRecDepth 100000 in
set_option maxHeartbeats 1000000 in
theorem lifted (os : Os) (started : os.Started) (H : Type) (enc : TypeId × Value → H) :
    ReturnsInHanded {} Try.checked os 5 .any (Rows.locksTurnSpec.pre6 enc Try.prog Try.f5 Rows.locksTurnRow.domain false) (Rows.locksTurnSpec.post enc Try.prog Try.f5 false true false false) := by
  refine returnsInHanded_of_change (C := Try.checked) own started (by kernel_rfl) Try.func5
    (ChangeSpec.witness6 (enc := enc) (C := Try.checked) false ⟨#[], #[.agg #[.int .i64 0, .int .i64 0, .int .i64 0, .bool false], .agg #[.int .i64 0, .int .i64 0, .int .i64 0, .bool false]], []⟩ 8 (by kernel_rfl) (by kernel_rfl) (by kernel_rfl) (by kernel_rfl)) ?_
  intro W base args ds gs before hval0 hW hcnd _
  have hval : ∀ (j : Nat) t v, Try.f5.params[j]? = some t → args[j]? = some v → Value.okWide Try.prog W .any base t v := hval0
  have hW' := hW
  obtain ⟨p, q, hA0, hV, rfl, hfz, hnd⟩ := hW
  have hA : DataW.TrodAll enc Try.prog W 0 (fun _ => true) true Try.f5.params.toList args.toList ds p := hA0
  rw [Try.params5] at hA hval
  obtain ⟨v0, vs0, d0, ds0, p0, q0, hargs, rfl, rfl, h0, r0⟩ := trodAll_cons hA
  obtain ⟨v1, vs1, d1, ds1, p1, q1, rfl, rfl, rfl, h1, r1⟩ := trodAll_cons r0
  obtain ⟨rfl, rfl, rfl⟩ := trodAll_nil r1
  obtain rfl : args = #[v0, v1] := by cases args; simp_all
  obtain ⟨i1, a1, l1, b1, rfl⟩ := open_lock (hval 0 29 v0 rfl rfl) h0
  obtain ⟨i2, a2, l2, b2, rfl⟩ := open_lock (hval 1 29 v1 rfl rfl) h1
  refine ((LocksTurn_c (h := W.heap)  (K := fun v h' => v = .bool true ∧ Ext W.heap h') (fun h' e => ⟨rfl, e⟩)).out W rfl).mono fun e W' ⟨v, he, hs, hv, hx⟩ => ?_
  exact ⟨v, he, hv ▸ law_post laidOut (by kernel_rfl) rfl (tb := 4) (by kernel_rfl) (by kernel_rfl) hW' (fun hg => by rw [hg]; rfl) (below_of hs hx)⟩

theorem proved : Rows.LocksTurnSaid :=
  OpenClaim.holds_of_wide 5 Try.f5 rfl rfl rfl rfl rfl rfl rfl ⟨rfl, rfl, rfl, rfl, rfl⟩ rfl rfl rfl rfl rfl (by kernel_rfl) Try.func5 (by kernel_rfl)
    (of_decide_eq_true (by kernel_rfl)) (by unfold Func.isWrapper; first | (rw [if_pos (by decide +kernel)]; kernel_rfl) | (rw [if_neg (by decide +kernel)]; exact ⟨rfl, rfl⟩))
    (fun os started H enc _ => lifted os started H enc)
end Go.Proofs.Ytlligpgjkmfhpaa.locksTurn
