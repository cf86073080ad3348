/- Locks: no two that hold are against each other; each that waits waits for some. -/
import Derived.Test.YtlligpgjkmfhpaaLock17
set_option linter.unusedSimpArgs false
set_option linter.unusedVariables false
namespace Go.Proofs.Ytlligpgjkmfhpaa
open Go.Vc Go.Sort
variable {K : Value → Heap → Prop} {h : Heap}

/-- A list in a cell of its own. -/
structure BoxL (o : Nat) (g : Heap) (q : Nat) (v : Value) (xs : List Lx) : Prop where
  cell : g[q]? = some (.cells #[v] 22)
  own : OwnL g v xs
  blk : ∀ b, blkV v = some b → o ≤ b
theorem BoxL.ext {o : Nat} {g g' : Heap} {q : Nat} {v : Value} {xs : List Lx} (a : BoxL o g q v xs) (e : Ext g g') : BoxL o g' q v xs :=
  ⟨(e.block _ (get_some_lt a.cell)).trans a.cell, OwnT.ext a.own e, a.blk⟩
theorem BoxL.mod {S : Nat → Prop} {o : Nat} {g g' : Heap} {q : Nat} {v : Value} {xs : List Lx} (a : BoxL o g q v xs) (e : Mod S g g') (h1 : ¬ S q) (h2 : ∀ b, o ≤ b → b < g.size → ¬ S b) : BoxL o g' q v xs :=
  ⟨(e.block _ (get_some_lt a.cell) h1).trans a.cell, OwnT.mod a.own e (fun b hb => h2 b (a.blk b hb) (OwnT.lt a.own hb)), a.blk⟩
theorem BoxL.c0 {o : Nat} {g : Heap} {q : Nat} {v : Value} {xs : List Lx} (a : BoxL o g q v xs) : hcell g ⟨q, 0, none⟩ = some v ∧ hfrozen g ⟨q, 0, none⟩ = false := ⟨cellOf a.cell rfl, frzOf a.cell⟩

structure Rn (o : Nat) (gR : Heap) (q : Nat) (xs : List Lx) (i : Nat) (g : Heap) : Prop where
  mod : Mod (· = q) gR g
  box : ∃ v, BoxL (gR.size + 2) g q v (xs.take i)

set_option maxHeartbeats 1000000 in
theorem apart_c {p : Nat} {s : Lk} {w : Value} {some : List Lx} (hs : LkAt h p s) (hw : OwnL h w some) (hl : some.length < 1000) (hR : RecS some s)
    (hH : ∀ x ∈ s.H, ∀ y ∈ s.H, x ≠ y → agst x.r y.r = false)
    (hW : ∀ x ∈ s.W, (∃ y ∈ s.H, agst x.r y.r = true) ∨ ∃ y ∈ s.W, y.r.tk < x.r.tk ∧ agst x.r y.r = true)
    (H : ∀ h', Ext h h' → K (.bool true) h') : CallsH Try.prog 13 #[ptrV p, w] h K ⟨⟩ := by
  refine n13_calls ?_
  unfold n13
  obtain ⟨wa, wc, hwe, hwc⟩ := hw.form
  have hfew := hs.few
  have hlen := hR.len
  rw [hwe]
  simp (disch := omega)
  rw [← hwe]
  refine (fun key => key _ ?_ ?_ ?_ ?_ ?_ ?_ : (∀ g0, Ext h g0 → g0.size = h.size + 4 → g0[h.size]? = Option.some (.cells #[w] 22) → g0[h.size + 1]? = Option.some (.cells #[.bool false] 4) → g0[h.size + 1 + 1]? = Option.some (.cells #[.slice none 0 0] 22) → g0[h.size + 1 + 1 + 1]? = Option.some (.cells #[.slice none 0 0] 22) → CallsH Try.prog 23 _ g0 _ ⟨⟩) → _) (fun g0 E0 Z0 B0 B1 B2 B3 => ?_)
  · exact (by repeat' (first | (with_reducible exact Ext.refl _) | (with_reducible assumption) | (with_reducible refine push_ext ?_) | (with_reducible refine hset_ext ?_ ?_) | (with_reducible refine Ext.trans ?_ (by assumption)) | omega | (simp; done) | (simp; omega) | (refine Ext.size ?_) | (refine Nat.le_succ_of_le (Ext.size ?_))))
  · simp
  · exact (get_push (by simp <;> omega)).trans ((get_push (by simp <;> omega)).trans ((get_push (by simp)).trans (get_pushed rfl)))
  · exact (get_push (by simp <;> omega)).trans ((get_push (by simp)).trans (get_pushed (by simp)))
  · exact (get_push (by simp)).trans (get_pushed (by simp))
  · exact get_pushed (by simp)
  refine Held_c (hs.ext E0) fun L1 w1 g1 p1 e1 q1 => ?_
  refine Waiting_c ((hs.ext E0).ext e1) fun L2 w2 g2 p2 so2 e2 q2 => ?_
  have q1' := q1.ext e2
  have E2 := (E0.trans e1).trans e2
  obtain ⟨sb1, v1, hw1, -⟩ := id q1
  obtain ⟨sb2, v2, hw2, -⟩ := id q2
  rw [hw1, hw2]
  simp (disch := omega)
  rw [← hw1, ← hw2]
  have z1 := e1.size
  have z2 := e2.size
  have F2 : Ext g0 g2 := e1.trans e2
  have hl1 : L1.length < 100000 := by rw [p1.length_eq]; simp [Lk.all] at hfew; omega
  have hl2 : L2.length < 100000 := by rw [p2.length_eq]; simp [Lk.all] at hfew; omega
  have okH : ∀ x ∈ L1, x.lx.ok := fun x hx => by
    have := (hs.rq x (List.mem_append_left _ (p1.mem_iff.1 hx))).1.2
    exact this
  have okW : ∀ x ∈ L2, x.lx.ok := fun x hx => by
    have := (hs.rq x (List.mem_append_right _ (p2.mem_iff.1 hx))).1.2
    exact this
  have blkN : ∀ x ∈ s.H, ∀ y ∈ s.H, x.b = y.b → x = y := fun x hx y hy e => inj_on_of_nodup_map hs.blks (List.mem_append_left _ hx) (List.mem_append_left _ hy) e
  have noH : ∀ i j (hi : i < L1.length) (hj : j < L1.length), j < i → agst L1[i].r L1[j].r = false := fun i j hi hj hij => by
    have hnd : (L1.map (·.b)).Nodup := by
      rw [(p1.map _).nodup_iff]
      have := hs.blks
      unfold Lk.all at this
      rw [List.map_append] at this
      exact (List.nodup_append.1 this).1
    refine hH _ (p1.mem_iff.1 (List.getElem_mem hi)) _ (p1.mem_iff.1 (List.getElem_mem hj)) fun e => ?_
    have := List.pairwise_iff_getElem.1 hnd j i (by simpa using hj) (by simpa using hi) hij
    simp [e] at this
  refine JoinN_in1 (fun D g => D = consD g2.size (.tuple #[]) ∧ Rn g0.size g2 (h.size + 1 + 1) (L1.map Rb.lx) (L1.map Rb.lx).length g ∧ g[g2.size]? = Option.some (.deferred (Option.some []))) (fun kk hkk => ?_) (fun D g hD => ?_)
  · refine JoinN.mk ?_
    refine RangeSeq q1' (fun i g => Rn g0.size g2 (h.size + 1 + 1) (L1.map Rb.lx) i g) (fun g e z => ⟨.of_ext e, .slice none 0 0, ((e.block _ (by have := get_some_lt B2; omega)).trans ((F2.block _ (get_some_lt B2)).trans B2)), .inl ⟨rfl, rfl⟩, fun b hb => by cases hb⟩) (fun i g g' a e => ⟨a.mod.extIn e, a.box.choose, a.box.choose_spec.ext e⟩) ?_ ?_
    · intro i hi g oR oB J X hRn hlo hoR hoB hX
      have hiL : i < L1.length := by simpa using hi
      have hel : (L1.map Rb.lx)[i].val = .agg #[.int .i64 L1[i].key, .int .i64 L1[i].r.at_, .int .i64 L1[i].r.len, .bool L1[i].r.al] := by simp; rfl
      obtain ⟨md, hv, hbx⟩ := hRn
      have zg := md.size
      have lo := get_some_lt hlo
      rw [hel]
      simp (disch := omega)
      refine (fun key => ⟨?A, key _ ?B ?C ?D⟩ : (∀ g3, Mod (· = g2.size + 1) g g3 → g3[g.size]? = Option.some (.cells #[.int .i64 L1[i].key, .int .i64 L1[i].r.at_, .int .i64 L1[i].r.len, .bool L1[i].r.al] 29) → g3[g2.size + 1]? = Option.some oB → LoopC 1 _ _ g3 ⟨⟩) → _) (fun g3 m3 x3 l3 => ?E)
      case A => exact (get_ext (h := g) (by repeat' (first | (with_reducible exact Ext.refl _) | (with_reducible assumption) | (with_reducible refine push_ext ?_) | (with_reducible refine hset_ext ?_ ?_) | (with_reducible refine Ext.trans ?_ (by assumption)) | omega | (simp; done) | (simp; omega) | (refine Ext.size ?_) | (refine Nat.le_succ_of_le (Ext.size ?_)))) lo).trans hlo
      case B => exact (by repeat' (first | (with_reducible exact Mod.refl _ _) | (with_reducible assumption) | (with_reducible refine Mod.pushIn ?_) | (with_reducible refine Mod.setIn ?_ ?_) | (with_reducible refine Mod.putIn ?_ ?_) | (with_reducible refine Mod.extIn ?_ (by assumption)) | (exact Or.inr (by first | omega | (simp; done) | (simp; omega))) | (exact Or.inl (by first | (simp; done) | (simp; omega)))))
      case C =>
        rw [get_putne (by omega)]
        exact obj_set (obj_set (obj_set (obj_set (get_pushed rfl))))
      case D => exact get_put (by simp; omega)
      have hb2 := get_some_lt B2
      have hqb : h.size + 1 + 1 ≠ g2.size + 1 := by omega
      have bx3 : BoxL (g2.size + 2) g3 (h.size + 1 + 1) hv ((L1.map Rb.lx).take i) := hbx.mod m3 hqb (fun b h1 h2 e => by have : b = g2.size + 1 := e; omega)
      have z3 := m3.size
      have zx3 := get_some_lt x3
      refine loopX1 (fun j : Nat => .int .i64 j) (fun j g4 => Ext g3 g4 ∧ j ≤ i) (fun j => i - j) 0 rfl ⟨.refl _, by omega⟩ ?_
      rintro j g4 ⟨e4, hj⟩ X1 hX1
      have bx4 := bx3.ext e4
      obtain ⟨ha, hc, hve, hvc⟩ := bx4.own.form
      have htl : ((L1.map Rb.lx).take i).length = i := by simp; omega
      rw [htl] at hve hvc
      have c4 := bx4.c0
      rw [hve] at c4
      have x4 := (e4.block _ zx3).trans x3
      have k0 := cellOf (i := 0) x4 rfl
      have k1 := cellOf (i := 1) x4 rfl
      have k2 := cellOf (i := 2) x4 rfl
      have k3 := cellOf (i := 3) x4 rfl
      by_cases hji : j < i
      · have hlx := bx4.own.lxs
        rw [hve] at hlx
        obtain ⟨ha', rfl, -, -⟩ := hlx.some (by rw [htl]; omega)
        obtain ⟨d0, d1, d2, d3⟩ := hlx.cell j (by rw [htl]; exact hji)
        have hgj : ((L1.map Rb.lx).take i)[j]'(by rw [htl]; exact hji) = (L1[j]'(by omega)).lx := by simp
        rw [hgj] at d0 d1 d2 d3
        simp (disch := omega) [c4, k0, k1, k2, k3, d0, d1, d2, d3]
        refine lawAgainst_c (x := L1[i].lx) (y := (L1[j]'(by omega)).lx) (okH _ (List.getElem_mem _)) (okH _ (List.getElem_mem _)) fun g5 e5 => ?_
        rw [show agst (L1[i].lx.rq 0) ((L1[j]'(by omega)).lx.rq 0) = agst L1[i].r (L1[j]'(by omega)).r from rfl, noH i j hiL (by omega) hji]
        simp (disch := omega)
        exact hX1 (j + 1) _ _ (by simp) ⟨e4.trans e5, by omega⟩ (by omega)
      · simp (disch := omega) [c4, k0, k1, k2, k3]
        rw [← hve]
        have htk : (L1.map Rb.lx).take (i + 1) = (L1.map Rb.lx).take i ++ [L1[i].lx] := by rw [List.take_succ_eq_append_getElem hi]; simp
        refine OwnL.push (x := L1[i].lx) bx4.own (by rw [htl]; omega) (by kernel_rfl) fun w3 g5 o5 m5 f5 => ?_
        have z4 := e4.size
        have z5 := m5.size
        have nq : ¬ blkV hv = Option.some (h.size + 1 + 1) := fun e => by have := bx4.blk _ e; omega
        have nl : ¬ blkV hv = Option.some (g2.size + 1) := fun e => by have := bx4.blk _ e; omega
        have nd : ¬ blkV hv = Option.some g2.size := fun e => by have := bx4.blk _ e; omega
        have c5b := (m5.block _ (get_some_lt bx4.cell) nq).trans bx4.cell
        have c5 := cellOf (i := 0) c5b rfl
        have f5' := frzOf (i := 0) c5b
        have l4 := (e4.block _ (get_some_lt l3)).trans l3
        have l5 := (m5.block _ (get_some_lt l4) nl).trans l4
        obtain ⟨w3a, w3c, hw3, -⟩ := o5.form
        have hw3' : w3 = .slice w3a (i + 1) w3c := by rw [hw3]; simp; omega
        rw [hw3']
        simp (disch := omega) [c5, f5']
        rw [← hw3']
        have lq := get_some_lt c5b
        have x5 : (hset g5 ⟨h.size + 1 + 1, 0, none⟩ w3)[h.size + 1 + 1]? = Option.some (.cells #[w3] 22) := obj_set c5b
        have ll5 : (hset g5 ⟨h.size + 1 + 1, 0, none⟩ w3)[g2.size + 1]? = Option.some oB := obj_ne l5 (by omega)
        refine ⟨ll5, hX _ (fun b => b = h.size + 1 + 1 ∨ b = g2.size + 1 ∨ blkV hv = Option.some b) ⟨?_, w3, ?_, ?_, ?_⟩ (get_put (by simp; omega)) ?_ ?_ ?_⟩
        · exact ((md.trans m3 (fun b hb e => by have : b = g2.size + 1 := e; omega)).extIn e4).trans m5 (fun b hb e => by have := bx4.blk b e; omega) |>.trans (Mod.set g5 ⟨h.size + 1 + 1, 0, none⟩ w3) (fun b _ e => e) |>.trans (Mod.put _ (g2.size + 1) oR) (fun b hb e => by have : b = g2.size + 1 := e; omega)
        · rw [get_putne hqb]; exact x5
        · rw [htk]
          refine OwnT.mod (OwnT.mod o5 (Mod.set g5 ⟨h.size + 1 + 1, 0, none⟩ w3) (fun b hb e => ?_)) (Mod.put _ (g2.size + 1) oR) (fun b hb e => ?_)
          · have := (f5 b hb).elim (bx4.blk b) (fun e => by omega)
            have : b = h.size + 1 + 1 := e
            omega
          · have := (f5 b hb).elim (bx4.blk b) (fun e => by omega)
            have : b = g2.size + 1 := e
            omega
        · exact fun b hb => (f5 b hb).elim (bx4.blk b) (fun e => by omega)
        · exact (((m3.mono (fun b _ e => .inr (.inl e))).extIn e4).trans m5 (fun b _ e => .inr (.inr e))).trans (Mod.set g5 ⟨h.size + 1 + 1, 0, none⟩ w3) (fun b _ e => .inl e) |>.trans (Mod.put _ (g2.size + 1) oR) (fun b _ e => .inr (.inl e))
        · rintro (e | e | e)
          · omega
          · omega
          · have := bx4.blk _ e; omega
        · rintro b h1 h2 (e | e | e)
          · omega
          · omega
          · have := bx4.blk _ e; omega
    · intro g oE hRn hd hlt
      refine hkk _ _ ⟨rfl, ?_, ?_⟩
      · obtain ⟨md, hv, hbx⟩ := hRn
        have hb2 := get_some_lt B2
        refine ⟨md.trans (Mod.put _ (g2.size + 1) oE) (fun b hb e => by have : b = g2.size + 1 := e; omega), hv, hbx.mod (Mod.put _ (g2.size + 1) oE) (by omega) (fun b h1 h2 e => by have : b = g2.size + 1 := e; omega)⟩
      · rw [get_putne (by omega)]; exact hd
  · obtain ⟨rfl, ⟨md1, hv, hbx⟩, hd1⟩ := hD
    rw [List.take_length] at hbx
    have zg := md1.size
    have hb2 := get_some_lt B2
    have hb1 := get_some_lt B1
    have hb3 := get_some_lt B3
    have hb0 := get_some_lt B0
    have q2g : Seq g0.size g w2 (L2.map Rb.lx) := (show Seq g0.size g2 w2 (L2.map Rb.lx) from by
      obtain ⟨sb, v, r1, r2, r3, r4, r5, r6⟩ := q2
      exact ⟨sb, v, r1, r2, r3, r4, by omega, fun b hb => by have := r6 b hb; omega⟩).mod md1 (fun b h1 h2 e => by have : b = h.size + 1 + 1 := e; omega)
    have B3g : g[h.size + 1 + 1 + 1]? = Option.some (.cells #[.slice none 0 0] 22) := (md1.block _ (by omega) (by omega)).trans ((F2.block _ hb3).trans B3)
    have B0g : g[h.size]? = Option.some (.cells #[w] 22) := (md1.block _ (by omega) (by omega)).trans ((F2.block _ hb0).trans B0)
    have B1g : g[h.size + 1]? = Option.some (.cells #[.bool false] 4) := (md1.block _ (by omega) (by omega)).trans ((F2.block _ hb1).trans B1)
    have Eg : Ext h g := md1.ext_from E2 (fun b hb e => by have : b = h.size + 1 + 1 := e; omega)
    have hdl := get_some_lt hd1
    have hbl := hbx.blk
    have hqb := get_some_lt hbx.cell
    refine JoinN_in1 (fun D g' => D = consD g.size (consD g2.size (.tuple #[])) ∧ Rn g0.size g (h.size + 1 + 1 + 1) (L2.map Rb.lx) (L2.map Rb.lx).length g' ∧ g'[g.size]? = Option.some (.deferred (Option.some []))) (fun kk hkk => ?_) (fun D g' hD => ?_)
    · refine JoinN.mk ?_
      refine RangeSeq q2g (fun i g' => Rn g0.size g (h.size + 1 + 1 + 1) (L2.map Rb.lx) i g') (fun g' e z => ⟨.of_ext e, .slice none 0 0, ((e.block _ (by omega)).trans B3g), .inl ⟨rfl, rfl⟩, fun b hb => by cases hb⟩) (fun i g' g'' a e => ⟨a.mod.extIn e, a.box.choose, a.box.choose_spec.ext e⟩) ?_ ?_
      · intro i hi g5 oR oB J X hRn hlo hoR hoB hX
        have hiL : i < L2.length := by simpa using hi
        have hel : (L2.map Rb.lx)[i].val = .agg #[.int .i64 L2[i].key, .int .i64 L2[i].r.at_, .int .i64 L2[i].r.len, .bool L2[i].r.al] := by simp; rfl
        obtain ⟨md, wv, wbx⟩ := hRn
        have zg5 := md.size
        have lo := get_some_lt hlo
        rw [hel]
        simp (disch := omega)
        refine (fun key => ⟨?A2, key _ ?B2 ?C2 ?D2⟩ : (∀ g6, Mod (· = g.size + 1) g5 g6 → g6[g5.size]? = Option.some (.cells #[.int .i64 L2[i].key, .int .i64 L2[i].r.at_, .int .i64 L2[i].r.len, .bool L2[i].r.al] 29) → g6[g.size + 1]? = Option.some oB → LoopC 2 _ _ g6 ⟨⟩) → _) (fun g6 m6 x6 l6 => ?E2)
        case A2 => exact (get_ext (h := g5) (by repeat' (first | (with_reducible exact Ext.refl _) | (with_reducible assumption) | (with_reducible refine push_ext ?_) | (with_reducible refine hset_ext ?_ ?_) | (with_reducible refine Ext.trans ?_ (by assumption)) | omega | (simp; done) | (simp; omega) | (refine Ext.size ?_) | (refine Nat.le_succ_of_le (Ext.size ?_)))) lo).trans hlo
        case B2 => exact (by repeat' (first | (with_reducible exact Mod.refl _ _) | (with_reducible assumption) | (with_reducible refine Mod.pushIn ?_) | (with_reducible refine Mod.setIn ?_ ?_) | (with_reducible refine Mod.putIn ?_ ?_) | (with_reducible refine Mod.extIn ?_ (by assumption)) | (exact Or.inr (by first | omega | (simp; done) | (simp; omega))) | (exact Or.inl (by first | (simp; done) | (simp; omega)))))
        case C2 =>
          rw [get_putne (by omega)]
          exact obj_set (obj_set (obj_set (obj_set (get_pushed rfl))))
        case D2 => exact get_put (by simp; omega)
        have hqw : h.size + 1 + 1 + 1 ≠ g.size + 1 := by omega
        have M6 : Mod (fun b => b = h.size + 1 + 1 + 1 ∨ b = g.size + 1) g g6 := (md.mono (fun b _ e => .inl e)).trans m6 (fun b _ e => .inr e)
        have hb6 : BoxL (g2.size + 2) g6 (h.size + 1 + 1) hv (L1.map Rb.lx) := hbx.mod M6 (by omega) (fun b h1 h2 e => by omega)
        have wb6 : BoxL (g.size + 2) g6 (h.size + 1 + 1 + 1) wv ((L2.map Rb.lx).take i) := wbx.mod m6 hqw (fun b h1 h2 e => by have : b = g.size + 1 := e; omega)
        have z6 := m6.size
        have zx6 := get_some_lt x6
        have xk : L2[i] ∈ s.W := p2.mem_iff.1 (List.getElem_mem hiL)
        have b06 : g6[h.size]? = Option.some (.cells #[w] 22) := (M6.block _ (by omega) (by omega)).trans B0g
        have E6 : Ext h g6 := M6.ext_from Eg (fun b hb e => by omega)
        refine loopX2 (fun a : Bool × Nat => .bool a.1) (fun a => .int .i64 a.2) (fun a g7 => Ext g6 g7 ∧ a.2 ≤ L1.length ∧ a.1 = (L1.take a.2).any fun y => agst L2[i].r y.r) (fun a => L1.length - a.2) (false, 0) ⟨rfl, rfl⟩ ⟨.refl _, by simp, by simp⟩ ?_
        rintro ⟨sm, j⟩ g7 ⟨e7, hj, hsm⟩ X1 hX1
        dsimp only at hj hsm hX1 ⊢
        have hb7 := hb6.ext e7
        obtain ⟨ha, hc, hve, hvc⟩ := hb7.own.form
        have hll : (L1.map Rb.lx).length = L1.length := by simp
        rw [hll] at hve hvc
        have c7 := hb7.c0
        rw [hve] at c7
        have x7 := (e7.block _ zx6).trans x6
        have k0 := cellOf (i := 0) x7 rfl
        have k1 := cellOf (i := 1) x7 rfl
        have k2 := cellOf (i := 2) x7 rfl
        have k3 := cellOf (i := 3) x7 rfl
        by_cases hjl : j < L1.length
        · have hlx := hb7.own.lxs
          rw [hve] at hlx
          obtain ⟨ha', rfl, -, -⟩ := hlx.some (by rw [hll]; omega)
          obtain ⟨d0, d1, d2, d3⟩ := hlx.cell j (by rw [hll]; exact hjl)
          have hgj : (L1.map Rb.lx)[j]'(by rw [hll]; exact hjl) = L1[j].lx := by simp
          rw [hgj] at d0 d1 d2 d3
          have htk : (L1.take (j + 1)).any (fun y => agst L2[i].r y.r) = ((L1.take j).any (fun y => agst L2[i].r y.r) || agst L2[i].r L1[j].r) := by
            rw [List.take_succ_eq_append_getElem hjl, List.any_append]; simp
          cases sm with
          | true =>
            simp (disch := omega) [c7, k0, k1, k2, k3]
            exact hX1 (true, j + 1) _ _ _ rfl (by simp) ⟨e7, by dsimp only; omega, by rw [htk, ← hsm]; rfl⟩ (by dsimp only; omega)
          | false =>
            simp (disch := omega) [c7, k0, k1, k2, k3, d0, d1, d2, d3]
            refine lawAgainst_c (x := L2[i].lx) (y := L1[j].lx) (okW _ (List.getElem_mem _)) (okH _ (List.getElem_mem _)) fun g8 e8 => ?_
            rw [show agst (L2[i].lx.rq 0) (L1[j].lx.rq 0) = agst L2[i].r L1[j].r from rfl]
            simp (disch := omega)
            exact hX1 (agst L2[i].r L1[j].r, j + 1) _ _ _ rfl (by simp) ⟨e7.trans e8, by dsimp only; omega, by rw [htk, ← hsm]; rfl⟩ (by dsimp only; omega)
        · have hjL : j = L1.length := by omega
          subst hjL
          rw [List.take_length] at hsm
          simp (disch := omega) [c7, k0, k1, k2, k3]
          refine loopX2 (fun a : Bool × Nat => .bool a.1) (fun a => .int .i64 a.2) (fun a g8 => Ext g7 g8 ∧ a.2 ≤ i ∧ a.1 = (sm || (L2.take a.2).any fun y => agst L2[i].r y.r)) (fun a => i - a.2) (sm, 0) ⟨rfl, rfl⟩ ⟨.refl _, by simp, by simp⟩ ?_
          rintro ⟨sn, k⟩ g8 ⟨e8, hk, hsn⟩ X2 hX2
          dsimp only at hk hsn hX2 ⊢
          have wb8 := (wb6.ext e7).ext e8
          obtain ⟨wa8, wc8, wve, wvc⟩ := wb8.own.form
          have wll : ((L2.map Rb.lx).take i).length = i := by simp; omega
          rw [wll] at wve wvc
          have c8 := wb8.c0
          rw [wve] at c8
          have x8 := (e8.block _ (get_some_lt x7)).trans x7
          have u0 := cellOf (i := 0) x8 rfl
          have u1 := cellOf (i := 1) x8 rfl
          have u2 := cellOf (i := 2) x8 rfl
          have u3 := cellOf (i := 3) x8 rfl
          by_cases hki : k < i
          · have hlx := wb8.own.lxs
            rw [wve] at hlx
            obtain ⟨ha', rfl, -, -⟩ := hlx.some (by rw [wll]; omega)
            obtain ⟨d0, d1, d2, d3⟩ := hlx.cell k (by rw [wll]; exact hki)
            have hgj : ((L2.map Rb.lx).take i)[k]'(by rw [wll]; exact hki) = (L2[k]'(by omega)).lx := by simp
            rw [hgj] at d0 d1 d2 d3
            have htk : (L2.take (k + 1)).any (fun y => agst L2[i].r y.r) = ((L2.take k).any (fun y => agst L2[i].r y.r) || agst L2[i].r (L2[k]'(by omega)).r) := by
              rw [List.take_succ_eq_append_getElem (show k < L2.length by omega), List.any_append]; simp
            cases sn with
            | true =>
              simp (disch := omega) [c8, u0, u1, u2, u3]
              exact hX2 (true, k + 1) _ _ _ rfl (by simp) ⟨e8, by dsimp only; omega, by rw [htk, ← Bool.or_assoc, ← hsn]; rfl⟩ (by dsimp only; omega)
            | false =>
              simp (disch := omega) [c8, u0, u1, u2, u3, d0, d1, d2, d3]
              refine lawAgainst_c (x := L2[i].lx) (y := (L2[k]'(by omega)).lx) (okW _ (List.getElem_mem _)) (okW _ (List.getElem_mem _)) fun g9 e9 => ?_
              rw [show agst (L2[i].lx.rq 0) ((L2[k]'(by omega)).lx.rq 0) = agst L2[i].r (L2[k]'(by omega)).r from rfl]
              simp (disch := omega)
              exact hX2 (agst L2[i].r (L2[k]'(by omega)).r, k + 1) _ _ _ rfl (by simp) ⟨e8.trans e9, by dsimp only; omega, by rw [htk, ← Bool.or_assoc, ← hsn]; rfl⟩ (by dsimp only; omega)
          · have hki' : k = i := by omega
            subst hki'
            have hst : sn = true := by
              rw [hsn, hsm]
              rcases hW _ xk with ⟨y, hy, e⟩ | ⟨y, hy, hlt, e⟩
              · rw [List.any_eq_true.2 ⟨y, p1.mem_iff.2 hy, e⟩]; rfl
              · obtain ⟨j', hj', rfl⟩ := List.getElem_of_mem (p2.mem_iff.2 hy)
                have hji : j' < k := by
                  rcases Nat.lt_trichotomy j' k with a | a | a
                  · exact a
                  · subst a; omega
                  · have := List.pairwise_iff_getElem.1 so2 k j' hiL hj' a; omega
                have : (L2.take k).any (fun y => agst L2[k].r y.r) = true := List.any_eq_true.2 ⟨L2[j'], by rw [List.mem_take_iff_getElem]; exact ⟨j', by omega, rfl⟩, e⟩
                rw [this]; simp
            rw [hst]
            obtain ⟨n, hn, en, ea, el, eal⟩ := hR.key _ (List.mem_append_right _ xk)
            have eid := hR.id n hn
            have E8 : Ext h g8 := (E6.trans e7).trans e8
            have b08 : g8[h.size]? = Option.some (.cells #[w] 22) := (e8.block _ (by have := get_some_lt b06; have := e7.size; omega)).trans ((e7.block _ (get_some_lt b06)).trans b06)
            have c08 := cellOf (i := 0) b08 rfl
            rw [hwe] at c08
            have hwx := (OwnL.lxs (OwnT.ext hw E8 : OwnL g8 w some))
            rw [hwe] at hwx
            obtain ⟨wa', rfl, -, -⟩ := hwx.some (by omega)
            obtain ⟨v0, v1, v2, v3⟩ := hwx.cell n hn
            rw [eid] at v0
            rw [ea] at v1
            rw [el] at v2
            rw [eal] at v3
            rw [en] at u0
            simp (disch := omega) [c8, u0, u1, u2, u3, c08, v0, v1, v2, v3]
            have hvals : (#[Value.int IntKind.i64 ↑n, Value.int IntKind.i64 L2[k].r.at_, Value.int IntKind.i64 L2[k].r.len, Value.bool L2[k].r.al] : Array Value) = L2[k].lx.cells.toArray := by unfold Lx.cells; rw [← en]; rfl
            rw [hvals]
            rw [← wve]
            have htk : (L2.map Rb.lx).take (k + 1) = (L2.map Rb.lx).take k ++ [L2[k].lx] := by rw [List.take_succ_eq_append_getElem hi]; simp
            refine OwnL.push (x := L2[k].lx) wb8.own (by rw [wll]; omega) (by kernel_rfl) fun w3 g9 o9 m9 f9 => ?_
            have z8 := e8.size
            have z7 := e7.size
            have z9 := m9.size
            have nq : ¬ blkV wv = Option.some (h.size + 1 + 1 + 1) := fun e => by have := wb8.blk _ e; omega
            have nl : ¬ blkV wv = Option.some (g.size + 1) := fun e => by have := wb8.blk _ e; omega
            have nd : ¬ blkV wv = Option.some g.size := fun e => by have := wb8.blk _ e; omega
            have c9b := (m9.block _ (get_some_lt wb8.cell) nq).trans wb8.cell
            have c9 := cellOf (i := 0) c9b rfl
            have f9' := frzOf (i := 0) c9b
            have l7 := (e7.block _ (get_some_lt l6)).trans l6
            have l8 := (e8.block _ (get_some_lt l7)).trans l7
            have l9 := (m9.block _ (get_some_lt l8) nl).trans l8
            obtain ⟨w3a, w3c, hw3, -⟩ := o9.form
            have hw3' : w3 = .slice w3a (k + 1) w3c := by rw [hw3]; simp; omega
            rw [hw3']
            simp (disch := omega) [c9, f9']
            rw [← hw3']
            have lq := get_some_lt c9b
            have ll9 : (hset g9 ⟨h.size + 1 + 1 + 1, 0, none⟩ w3)[g.size + 1]? = Option.some oB := obj_ne l9 (by omega)
            have x9 : (hset g9 ⟨h.size + 1 + 1 + 1, 0, none⟩ w3)[h.size + 1 + 1 + 1]? = Option.some (.cells #[w3] 22) := obj_set c9b
            refine ⟨ll9, hX _ (fun b => b = h.size + 1 + 1 + 1 ∨ b = g.size + 1 ∨ blkV wv = Option.some b) ⟨?_, w3, ?_, ?_, ?_⟩ (get_put (by simp; omega)) ?_ ?_ ?_⟩
            · exact ((((md.trans m6 (fun b hb e => by have : b = g.size + 1 := e; omega)).extIn e7).extIn e8).trans m9 (fun b hb e => by have := wb8.blk b e; omega)) |>.trans (Mod.set g9 ⟨h.size + 1 + 1 + 1, 0, none⟩ w3) (fun b _ e => e) |>.trans (Mod.put _ (g.size + 1) oR) (fun b hb e => by have : b = g.size + 1 := e; omega)
            · rw [get_putne hqw]; exact x9
            · rw [htk]
              refine OwnT.mod (OwnT.mod o9 (Mod.set g9 ⟨h.size + 1 + 1 + 1, 0, none⟩ w3) (fun b hb e => ?_)) (Mod.put _ (g.size + 1) oR) (fun b hb e => ?_)
              · have := (f9 b hb).elim (wb8.blk b) (fun e => by omega)
                have : b = h.size + 1 + 1 + 1 := e
                omega
              · have := (f9 b hb).elim (wb8.blk b) (fun e => by omega)
                have : b = g.size + 1 := e
                omega
            · exact fun b hb => (f9 b hb).elim (wb8.blk b) (fun e => by omega)
            · exact ((((m6.mono (fun b _ e => .inr (.inl e))).extIn e7).extIn e8).trans m9 (fun b _ e => .inr (.inr e))).trans (Mod.set g9 ⟨h.size + 1 + 1 + 1, 0, none⟩ w3) (fun b _ e => .inl e) |>.trans (Mod.put _ (g.size + 1) oR) (fun b _ e => .inr (.inl e))
            · rintro (e | e | e)
              · omega
              · omega
              · have := wb8.blk _ e; omega
            · rintro b h1 h2 (e | e | e)
              · omega
              · omega
              · have := wb8.blk _ e; omega
      · intro g' oE hRn hd hlt
        refine hkk _ _ ⟨rfl, ?_, ?_⟩
        · obtain ⟨md, wv, wbx⟩ := hRn
          refine ⟨md.trans (Mod.put _ (g.size + 1) oE) (fun b hb e => by have : b = g.size + 1 := e; omega), wv, wbx.mod (Mod.put _ (g.size + 1) oE) (by omega) (fun b h1 h2 e => by have : b = g.size + 1 := e; omega)⟩
        · rw [get_putne (by omega)]; exact hd
    · obtain ⟨rfl, ⟨md2, wv, wbx⟩, hd2⟩ := hD
      have B1' := (md2.block _ (by omega) (by omega)).trans B1g
      have t0 := cellOf (i := 0) B1' rfl
      have t1 := frzOf (i := 0) B1'
      simp (disch := omega) [t0, t1]
      have hqw := get_some_lt wbx.cell
      have zg' := md2.size
      have m3 : Mod (· = h.size + 1) g' (hset g' ⟨h.size + 1, 0, none⟩ (.bool true)) := Mod.set g' ⟨h.size + 1, 0, none⟩ _
      have hd1' : g'[g2.size]? = Option.some (.deferred (Option.some [])) := (md2.block _ hdl (by omega)).trans hd1
      rw [show (Value.tuple #[]) = .tuple (marksV []).toArray from rfl, consD_marks, consD_marks]
      refine RetD_all (fun d hd => ?_) (by simp; omega) (fun g'' m4 => ?_)
      · simp at hd
        rcases hd with rfl | rfl
        · exact (m3.block _ (get_some_lt hd2) (by omega)).trans hd2
        · exact (m3.block _ (get_some_lt hd1') (by omega)).trans hd1'
      · have B3' : (hset g' ⟨h.size + 1, 0, none⟩ (.bool true))[h.size + 1]? = Option.some (.cells #[.bool true] 4) := obj_set B1'
        have B4 := (m4.block _ (get_some_lt B3') (by simp; omega)).trans B3'
        have c4 := cellOf (i := 0) B4 rfl
        simp (disch := omega) [c4]
        refine H _ ?_
        exact (((md2.mono (T := fun b => h.size ≤ b) (fun b _ e => by omega)).trans m3 (fun b _ e => by have : b = h.size + 1 := e; show h.size ≤ b; omega)).trans m4 (fun b _ e => by simp at e; show h.size ≤ b; omega)).ext_from Eg (fun b hb e => by have : h.size ≤ b := e; omega)
end Go.Proofs.Ytlligpgjkmfhpaa
