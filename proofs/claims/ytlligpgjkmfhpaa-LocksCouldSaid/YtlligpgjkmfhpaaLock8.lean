/- Locks: those that can go on do. -/
import Derived.Test.YtlligpgjkmfhpaaLock7
set_option linter.unusedSimpArgs false
set_option linter.unusedVariables false
namespace Go.Proofs.Ytlligpgjkmfhpaa
open Go.Vc
variable {K : Value → Heap → Prop} {h : Heap}

theorem snocRec {α : Type} {motive : List α → Prop} (h0 : motive []) (h1 : ∀ l x, motive l → motive (l ++ [x])) (l : List α) : motive l := by
  rw [← List.reverse_reverse l]
  induction l.reverse with
  | nil => exact h0
  | cons x xs ih => rw [List.reverse_cons]; exact h1 _ _ ih
def goStep (st : List Rb × List Rb × List Int) (x : Rb) : List Rb × List Rb × List Int :=
  if (st.1.any fun y => agst x.r y.r) || (st.2.1.any fun y => agst x.r y.r) then (st.1, st.2.1 ++ [x], st.2.2) else (st.1 ++ [x], st.2.1, st.2.2 ++ [x.key])
def goF (H : List Rb) (L : List Rb) : List Rb × List Rb × List Int := L.foldl goStep (H, [], [])
theorem goF_snoc (H L : List Rb) (x : Rb) : goF H (L ++ [x]) = goStep (goF H L) x := by unfold goF; rw [List.foldl_append]; rfl
theorem goF_perm (H : List Rb) (L : List Rb) : ((goF H L).1 ++ (goF H L).2.1).Perm (H ++ L) := by
  refine snocRec (motive := fun L => ((goF H L).1 ++ (goF H L).2.1).Perm (H ++ L)) ?_ ?_ L
  · simp [goF]
  · intro L x ih
    rw [goF_snoc]
    unfold goStep
    split
    · rw [← List.append_assoc, ← List.append_assoc]
      exact ih.append_right [x]
    · rw [← List.append_assoc]
      refine List.Perm.trans ?_ (ih.append_right [x])
      rw [List.append_assoc, List.append_assoc]
      exact List.Perm.append_left _ List.perm_append_comm
theorem goF_sub (H : List Rb) (L : List Rb) : (goF H L).2.1.Sublist L := by
  refine snocRec (motive := fun L => (goF H L).2.1.Sublist L) ?_ ?_ L
  · simp [goF]
  · intro L x ih
    rw [goF_snoc]
    unfold goStep
    split
    · exact ih.append (List.Sublist.refl _)
    · exact ih.trans (List.sublist_append_left _ _)

theorem goF_out (H : List Rb) (L : List Rb) : (goF H L).2.2.length ≤ L.length := by
  refine snocRec (motive := fun L => (goF H L).2.2.length ≤ L.length) ?_ ?_ L
  · simp [goF]
  · intro L x ih
    rw [goF_snoc]
    unfold goStep
    split
    · simp; omega
    · simpa using ih

structure GoI (h g : Heap) (p : Nat) (s : Lk) (L Wr : List Rb) (v lv ov : Value) : Prop where
  ln : LnAt g p (.map (some s.m)) (.int .i64 s.tk) v Wr
  hok : HOk Wr Wr.length
  perm : (L ++ Wr).Perm s.W
  sorted : L.Pairwise (fun x y => x.r.tk ≤ y.r.tk)
  le : ∀ x ∈ L, ∀ y ∈ Wr, x.r.tk ≤ y.r.tk
  map : MapK (.int .i64) g s.m (mapL (goF s.H L).1)
  rq : ∀ x ∈ s.all, RbAt g x
  left : OwnT lnT 1 g lv (ptrs (goF s.H L).2.1)
  out : OwnT 3 1 g ov ((goF s.H L).2.2.map (.int .i64))
  vb : ∀ b, blkV v = some b → blkV s.w = some b
  lb : ∀ b, blkV lv = some b → h.size ≤ b
  ob : ∀ b, blkV ov = some b → h.size ≤ b
  mod : Mod (foot p s) h g

theorem GoI.sub {h g : Heap} {p : Nat} {s : Lk} {L Wr : List Rb} {v lv ov : Value} (a : GoI h g p s L Wr v lv ov) : (∀ x ∈ (goF s.H L).1, x ∈ s.all) ∧ (∀ x ∈ (goF s.H L).2.1, x ∈ s.all) ∧ (∀ x ∈ Wr, x ∈ s.all) := by
  have hp := goF_perm s.H L
  have hL : ∀ x ∈ L, x ∈ s.W := fun x hx => a.perm.mem_iff.1 (List.mem_append_left _ hx)
  have hHL : ∀ x ∈ s.H ++ L, x ∈ s.all := fun x hx => by
    rcases List.mem_append.1 hx with e | e
    · exact List.mem_append_left _ e
    · exact List.mem_append_right _ (hL x e)
  exact ⟨fun x hx => hHL x (hp.mem_iff.1 (List.mem_append_left _ hx)), fun x hx => hHL x (hp.mem_iff.1 (List.mem_append_right _ hx)), fun x hx => List.mem_append_right _ (a.perm.mem_iff.1 (List.mem_append_right _ hx))⟩

theorem GoI.all {h g : Heap} {p : Nat} {s : Lk} {L Wr : List Rb} {v lv ov : Value} (a : GoI h g p s L Wr v lv ov) : ((goF s.H L).1 ++ (goF s.H L).2.1 ++ Wr).Perm s.all := by
  refine ((goF_perm s.H L).append_right Wr).trans ?_
  rw [List.append_assoc]
  exact a.perm.append_left _
theorem GoI.apart {h g : Heap} {p : Nat} {s : Lk} {L Wr : List Rb} {v lv ov : Value} (a : GoI h g p s L Wr v lv ov) (hb : (s.all.map (·.b)).Nodup) (hk : (s.all.map (·.key)).Nodup) {x y : Rb} (hx : x ∈ Wr) (hy : y ∈ (goF s.H L).1 ∨ y ∈ (goF s.H L).2.1) : x.b ≠ y.b ∧ x.key ≠ y.key := by
  rw [← (a.all.map _).nodup_iff, List.map_append, List.nodup_append] at hb hk
  have hy' : y ∈ (goF s.H L).1 ++ (goF s.H L).2.1 := List.mem_append.2 hy
  exact ⟨fun e => hb.2.2 y.b (List.mem_map_of_mem hy') x.b (List.mem_map_of_mem hx) e.symm, fun e => hk.2.2 y.key (List.mem_map_of_mem hy') x.key (List.mem_map_of_mem hx) e.symm⟩

set_option maxHeartbeats 4000000 in
theorem goOn_c {p : Nat} {s : Lk} (hs : Lks h p s)
    (H : ∀ L lv ov h', L.Perm s.W → L.Pairwise (fun x y => x.r.tk ≤ y.r.tk) → Lks h' p { s with H := (goF s.H L).1, W := (goF s.H L).2.1, w := lv } → OwnT 3 1 h' ov ((goF s.H L).2.2.map (.int .i64)) →
      Mod (foot p s) h h' → (∀ b, blkV lv = some b → h.size ≤ b) → (∀ b, blkV ov = some b → h.size ≤ b) → K ov h') :
    CallsH Try.prog 37 #[ptrV p] h K ⟨⟩ := by
  refine n37_calls ?_
  unfold n37
  refine loopA2 (α := Value × Value × Value × List Rb × List Rb) (fun a => a.1) (fun a => a.2.1) (fun a g => GoI h g p s a.2.2.2.1 a.2.2.2.2 a.2.2.1 a.2.1 a.1) (fun a => a.2.2.2.2.length) (.slice none 0 0, .slice none 0 0, s.w, [], s.W) ⟨rfl, rfl⟩ ⟨hs.toLkAt.line, hs.ord, .refl _, .nil, fun x hx => (by cases hx), by simpa [goF] using hs.map, fun x hx => (hs.rq x hx).1, .inl ⟨rfl, rfl⟩, .inl ⟨rfl, rfl⟩, fun b hb => hb, fun b hb => (by cases hb), fun b hb => (by cases hb), .refl _ _⟩ ?_
  rintro ⟨ov, lv, v, L, Wr⟩ g I
  dsimp only at I ⊢
  have c1 := cellOf (i := 1) I.ln.cells rfl
  have f1 := frzOf (i := 1) I.ln.cells
  unfold ptrV
  simp (disch := omega) [c1]
  obtain ⟨a, c, hv, hc, hne⟩ := I.ln.form
  refine n50_calls ?_
  unfold n50
  rw [hv]
  simp (disch := omega)
  by_cases hW : Wr = []
  · subst hW
    simp (disch := omega) [f1, c1]
    have c1' := cellOf (i := 1) I.ln.cells rfl
    obtain ⟨lo, ln, lc, hlv, -, -, -⟩ := I.left.form (by omega)
    rw [hlv]
    simp (disch := omega) [f1, c1']
    rw [← hlv]
    have m1 : Mod (· = p) g (hset g ⟨p, 1, none⟩ lv) := Mod.set g ⟨p, 1, none⟩ lv
    have hpW : L.Perm s.W := by simpa using I.perm
    have hall : ((goF s.H L).1 ++ (goF s.H L).2.1).Perm s.all := by have := I.all; simpa using this
    have nm : ∀ {b : Nat} {arr : Array Value} {t : Go.TypeId}, g[b]? = some (.cells arr t) → b ≠ s.m := fun {b arr t} hb e => by
      obtain ⟨es, cl, h3, _⟩ := I.map
      rw [e] at hb
      rw [hb] at h3; cases h3
    refine H L lv ov _ hpW I.sorted ⟨⟨obj_set I.ln.cells, I.map.mod m1 (fun e => nm I.ln.cells e.symm), I.left.mod m1 (fun b hb e => I.left.ne hb I.ln.cells lnT_ne e), fun x hx => ?_, ?_, ?_, ?_⟩, fun x hx => ?_, hs.tkb, ?_⟩
      (I.out.mod m1 (fun b hb e => I.out.ne hb I.ln.cells (by decide) e)) (I.mod.trans m1 (fun _ _ e => .inl e)) I.lb I.ob
    · have hx' : x ∈ s.all := hall.mem_iff.1 hx
      have hr := I.rq x hx'
      refine ⟨hr.mod m1 (fun e => ?_), (hs.rq x hx').2⟩
      have := hr.1
      unfold RqAt at this
      rw [e, I.ln.cells] at this; cases this
    · show (((goF s.H L).1 ++ (goF s.H L).2.1).map (·.b)).Nodup
      rw [(hall.map _).nodup_iff]; exact hs.blks
    · show (((goF s.H L).1 ++ (goF s.H L).2.1).map (·.key)).Nodup
      rw [(hall.map _).nodup_iff]; exact hs.keys
    · show ((goF s.H L).1 ++ (goF s.H L).2.1).length < 100000
      rw [hall.length_eq]; exact hs.few
    · exact hs.tks x (hall.mem_iff.1 hx)
    · have hps := I.sorted.sublist (goF_sub s.H L)
      intro i i0 hi
      have hi' : i < (goF s.H L).2.1.length := hi
      show tkO (goF s.H L).2.1 ((i - 1) / 2) ≤ tkO (goF s.H L).2.1 i
      rw [tkO_get (by omega), tkO_get hi']
      exact List.pairwise_iff_getElem.1 hps _ _ (by omega) hi' (by omega)
  · have hpos : 0 < Wr.length := List.length_pos_iff.2 hW
    simp (disch := omega)
    refine JoinN.mk ?_
    simp (disch := omega) [Hp_mkIface (P := Try.prog) (t := 66) (by kernel_rfl)]
    refine heapPop_c I.ln hW I.hok fun x W' v' g1 hp1 hmin hok1 ln1 m1 hvb1 => ?_
    have hxW : x ∈ Wr := hp1.mem_iff.1 List.mem_cons_self
    have hxa := I.sub.2.2 x hxW
    have P1 : (L ++ [x] ++ W').Perm s.W := by
      rw [List.append_assoc, List.singleton_append]
      exact (hp1.append_left L).trans I.perm
    have S1 : (L ++ [x]).Pairwise (fun x y => x.r.tk ≤ y.r.tk) := by
      rw [List.pairwise_append]
      exact ⟨I.sorted, by simp, fun y hy z hz => by simp at hz; subst hz; exact I.le y hy z hxW⟩
    have L1 : ∀ y ∈ L ++ [x], ∀ z ∈ W', y.r.tk ≤ z.r.tk := fun y hy z hz => by
      have hz' : z ∈ Wr := hp1.mem_iff.1 (List.mem_cons_of_mem _ hz)
      rcases List.mem_append.1 hy with e | e
      · exact I.le y e z hz'
      · simp at e; subst e; exact hmin z hz'
    have nm : ∀ {b : Nat} {arr : Array Value} {t : Go.TypeId}, g[b]? = some (.cells arr t) → b ≠ s.m := fun {b arr t} hb e => by
      obtain ⟨es, cl, h3, _⟩ := I.map
      rw [e] at hb
      rw [hb] at h3; cases h3
    have hplt := get_some_lt hs.cells
    have fo : ∀ b, (b = p ∨ blkV v = some b) → b < h.size := fun b e => hs.toLkAt.footlt (e.elim .inl (fun e => .inr (.inr (I.vb b e))))
    have hm1 := I.map.mod m1 (fun e => e.elim (fun e => nm I.ln.cells e.symm) (fun e => by obtain ⟨arr, ha⟩ := I.ln.row.tag e; exact nm ha rfl))
    have hl1 := I.left.mod m1 (fun b hb e => by have := I.lb b hb; have := fo b e; omega)
    have ho1 := I.out.mod m1 (fun b hb e => by have := I.ob b hb; have := fo b e; omega)
    have hr1 : ∀ y ∈ s.all, RbAt g1 y := fun y hy => (I.rq y hy).mod m1 (fun e => by
      have hy' := (I.rq y hy).1
      rcases e with e | e
      · unfold RqAt at hy'
        rw [e, I.ln.cells] at hy'; cases hy'
      · exact I.ln.row.ne e hy' lnT_ne2 rfl)
    have M1 : Mod (foot p s) h g1 := I.mod.trans m1 (fun b _ e => e.elim .inl (fun e => .inr (.inr (I.vb b e))))
    have vb1 : ∀ b, blkV v' = some b → blkV s.w = some b := fun b hb => I.vb b (hvb1 b hb)
    have hdec : W'.length < Wr.length := by have := hp1.length_eq; simp at this; omega
    refine (Hp_assert (t := lnT) (by kernel_rfl)).2 ?_
    simp (disch := omega)
    have okx := hs.rq x hxa
    have hrx := hr1 x hxa
    refine holds_c ln1.cells hm1 (against_tells hrx.1 okx.1.2 (fun y hy => hr1 y (I.sub.1 y hy))) fun g2 e2 => ?_
    rw [any_ne (fun y hy => (I.apart hs.blks hs.keys hxW (.inl hy)).1)]
    have mk : ∀ g3 lv3 ov3, LnAt g3 p (.map (some s.m)) (.int .i64 s.tk) v' W' → MapK (.int .i64) g3 s.m (mapL (goF s.H (L ++ [x])).1) → (∀ y ∈ s.all, RbAt g3 y) → OwnT lnT 1 g3 lv3 (ptrs (goF s.H (L ++ [x])).2.1) → OwnT 3 1 g3 ov3 ((goF s.H (L ++ [x])).2.2.map (.int .i64)) →
        (∀ b, blkV lv3 = some b → h.size ≤ b) → (∀ b, blkV ov3 = some b → h.size ≤ b) → Mod (foot p s) h g3 →
        ∃ a' : Value × Value × Value × List Rb × List Rb, ov3 = a'.1 ∧ lv3 = a'.2.1 ∧ GoI h g3 p s a'.2.2.2.1 a'.2.2.2.2 a'.2.2.1 a'.2.1 a'.1 ∧ a'.2.2.2.2.length < Wr.length := fun g3 lv3 ov3 a1 a2 a3 a4 a5 a6 a7 a8 =>
      ⟨(ov3, lv3, v', L ++ [x], W'), rfl, rfl, ⟨a1, hok1, P1, S1, L1, a2, a3, a4, a5, vb1, a6, a7, a8⟩, hdec⟩
    have against : ∀ (g2 : Heap), Ext g1 g2 → (((goF s.H L).1.any fun y => agst x.r y.r) || ((goF s.H L).2.1.any fun y => agst x.r y.r)) = true → Hp Try.prog false (Instr.buildSlice 55 1 #[(0, ptrV x.b)])
        (fun t30 h_24 => Hp Try.prog false (Builtin.append_ #[55, 55] 55 #[lv, t30]) (fun t31 h_25 => ∃ a' : Value × Value × Value × List Rb × List Rb, ov = a'.1 ∧ t31 = a'.2.1 ∧ GoI h h_25 p s a'.2.2.2.1 a'.2.2.2.2 a'.2.2.1 a'.2.1 a'.1 ∧ a'.2.2.2.2.length < Wr.length) h_24 ⟨⟩) g2 ⟨⟩ := fun g2 e2 hany => by
      have hgo : goF s.H (L ++ [x]) = ((goF s.H L).1, (goF s.H L).2.1 ++ [x], (goF s.H L).2.2) := by
        rw [goF_snoc]; unfold goStep; rw [if_pos hany]
      rw [hgo] at mk
      have hll : (goF s.H L).2.1.length < 100000 := by
        have := hs.few
        have h1 := I.perm.length_eq
        have h2 := (goF_sub s.H L).length_le
        simp [Lk.all] at this h1
        omega
      unfold ptrV
      simp (disch := omega)
      refine Hp_appP (e := lnT) (by_ := 8) (by kernel_rfl) (by kernel_rfl) (hl1.ext e2) rfl (by rw [ptrs_len]; omega) (by omega) fun lv3 g3 o3 m3 f3 => ?_
      have m13 : Mod (fun b => blkV lv = some b) g1 g3 := (Mod.of_ext e2).trans m3 (fun _ _ e => e)
      have hz : h.size ≤ g1.size := M1.size
      have hz2 : h.size ≤ g2.size := Nat.le_trans hz e2.size
      have np : ¬ blkV lv = some p := fun e => by have := I.lb _ e; omega
      refine mk g3 lv3 ov ⟨(m13.block p (get_some_lt ln1.cells) np).trans ln1.cells, ln1.row.mod m13 (fun b hb e => ?_), fun y hy => (ln1.rq y hy).mod m13 (fun e => ?_), ln1.few⟩ (hm1.mod m13 (fun e => ?_)) (fun y hy => (hr1 y hy).mod m13 (fun e => ?_)) ?_ (ho1.mod m13 (fun b hb e => ?_)) (fun b hb => (f3 b hb).elim (I.lb b) (fun e => by omega)) I.ob (M1.trans m13 (fun b hb e => ?_))
      · have := I.lb b e; have := fo b (.inr (hvb1 b hb)); omega
      · exact hl1.ne e (ln1.rq y hy) lnT_ne2 rfl
      · obtain ⟨es, cl, h3, _⟩ := hm1
        exact hl1.neM e h3 rfl
      · exact hl1.ne e (hr1 y hy).1 lnT_ne2 rfl
      · simpa [ptrs, ptrV] using o3
      · obtain ⟨arr, ha⟩ := hl1.tag e
        exact ho1.ne hb ha (by decide) rfl
      · have := I.lb b e; omega
    cases hcH : (goF s.H L).1.any fun y => agst x.r y.r with
    | true =>
      simp (disch := omega)
      exact against g2 e2 (by rw [hcH]; rfl)
    | false =>
      simp (disch := omega)
      refine ContainsFunc_c (hl1.ext e2) ?_ (against_tells (hrx.1.ext e2) okx.1.2 (fun y hy => (hr1 y (I.sub.2.1 y hy)).ext e2)) fun g3 e3 => ?_
      · have := hs.few
        have h1 := I.perm.length_eq
        have h2 := (goF_sub s.H L).length_le
        simp [Lk.all] at this h1
        omega
      rw [any_ne (fun y hy => (I.apart hs.blks hs.keys hxW (.inr hy)).1)]
      cases hcW : (goF s.H L).2.1.any fun y => agst x.r y.r with
      | true =>
        simp (disch := omega)
        exact against g3 (e2.trans e3) (by rw [hcH, hcW]; rfl)
      | false =>
        simp (disch := omega)
        have ln3 : LnAt g3 p (.map (some s.m)) (.int .i64 s.tk) v' W' := ⟨(((e2.trans e3).block p (get_some_lt ln1.cells))).trans ln1.cells, ln1.row.ext (e2.trans e3), fun y hy => (ln1.rq y hy).ext (e2.trans e3), ln1.few⟩
        have hm3 := hm1.ext (e2.trans e3)
        have hr3 : ∀ y ∈ s.all, RbAt g3 y := fun y hy => (hr1 y hy).ext (e2.trans e3)
        have hl3 := hl1.ext (e2.trans e3)
        have ho3 := ho1.ext (e2.trans e3)
        have M3 : Mod (foot p s) h g3 := M1.extIn (e2.trans e3)
        have p0 := cellOf (i := 0) ln3.cells rfl
        have x0 := (hr3 x hxa).1.c0
        rw [← okx.2] at x0
        unfold ptrV
        simp (disch := omega) [p0, x0]
        refine Hp_mapUpdate lockKey hm3 fun h5 hm5 m5 => ?_
        have hkn : ∀ y ∈ (goF s.H L).1, y.key ≠ x.key := fun y hy => (I.apart hs.blks hs.keys hxW (.inl hy)).2.symm
        have hup : upd x.key (ptrV x.b) (mapL (goF s.H L).1) = mapL ((goF s.H L).1 ++ [x]) := by
          rw [upd_mapL hkn]
          simp [mapL]
        rw [show (Value.pointer (some ⟨x.b, 0, none⟩)) = ptrV x.b from rfl, hup] at hm5
        have nm3 : ∀ {b : Nat} {arr : Array Value} {t : Go.TypeId}, g3[b]? = some (.cells arr t) → b ≠ s.m := fun {b arr t} hb e => by
          obtain ⟨es, cl, h3, _⟩ := hm3
          rw [e] at hb
          rw [hb] at h3; cases h3
        have hr5 : ∀ y ∈ s.all, RbAt h5 y := fun y hy => (hr3 y hy).mod m5 (nm3 (hr3 y hy).1)
        have x5 := (hr5 x hxa).1.c0
        rw [← okx.2] at x5
        simp (disch := omega) [x5]
        have hgo : goF s.H (L ++ [x]) = ((goF s.H L).1 ++ [x], (goF s.H L).2.1, (goF s.H L).2.2 ++ [x.key]) := by
          rw [goF_snoc]; unfold goStep; rw [hcH, hcW]; rfl
        rw [hgo] at mk
        have ho5 := ho3.mod m5 (fun b hb e => by obtain ⟨arr, ha⟩ := ho3.tag hb; exact nm3 ha e)
        have hol : (goF s.H L).2.2.length < 100000 := by
          have := hs.few
          have h1 := I.perm.length_eq
          have h2 := goF_out s.H L
          simp [Lk.all] at this h1
          omega
        refine Hp_appP (e := 3) (by_ := 8) (by kernel_rfl) (by kernel_rfl) ho5 rfl (by simp; omega) (by omega) fun ov6 g6 o6 m6 f6 => ?_
        have no : ∀ {b : Nat} {arr : Array Value} {t : Go.TypeId}, h5[b]? = some (.cells arr t) → t ≠ 3 → ¬ blkV ov = some b := fun hb hne e => ho5.ne e hb (Ne.symm hne) rfl
        have c5 : h5[p]? = some (.cells #[.map (some s.m), v', .int .i64 s.tk] 57) := (m5.block p (get_some_lt ln3.cells) (nm3 ln3.cells)).trans ln3.cells
        have row5 := ln3.row.mod m5 (fun b hb e => by obtain ⟨arr, ha⟩ := ln3.row.tag hb; exact nm3 ha e)
        have left5 := hl3.mod m5 (fun b hb e => by obtain ⟨arr, ha⟩ := hl3.tag hb; exact nm3 ha e)
        have noT : ∀ {b : Nat} {v : Value} {vs : List Value}, OwnT lnT 1 h5 v vs → blkV v = some b → ¬ blkV ov = some b := fun o hb e => by
          obtain ⟨arr, ha⟩ := o.tag hb
          exact no ha (by decide) e
        have hz5 : h.size ≤ h5.size := Nat.le_trans M3.size m5.size
        refine mk g6 lv ov6 ⟨(m6.block p (get_some_lt c5) (no c5 (by decide))).trans c5, row5.mod m6 (fun b hb e => noT row5 hb e), fun y hy => ?_, ln3.few⟩ (hm5.mod m6 (fun e => ?_)) (fun y hy => (hr5 y hy).mod m6 (no (hr5 y hy).1 (by decide))) (left5.mod m6 (fun b hb e => noT left5 hb e)) ?_ I.lb (fun b hb => (f6 b hb).elim (I.ob b) (fun e => by omega)) ((M3.trans m5 (fun b _ e => .inr (.inl e))).trans m6 (fun b hb e => by have := I.ob b e; omega))
        · have hy5 : RqAt h5 y.b y.r := (ln3.rq y hy).mod m5 (nm3 (ln3.rq y hy))
          exact hy5.mod m6 (no hy5 (by decide))
        · obtain ⟨es, cl, h3, _⟩ := hm5
          exact ho5.neM e h3 rfl
        · simpa using o6
end Go.Proofs.Ytlligpgjkmfhpaa
