/- What is proved: the law palimpsestlaw23.LocksCould returns true for every input, and its arguments read as they did. No conditions. -/
import Derived.Test.YtlligpgjkmfhpaaRows
import Derived.Test.YtlligpgjkmfhpaaLock14
set_option linter.unusedSimpArgs false
set_option linter.unusedVariables false
namespace Go.Proofs.Ytlligpgjkmfhpaa
open Go.Vc
variable {K : Value → Heap → Prop} {h : Heap}

theorem find_mem {s : Lk} {n : Int} (hk : ∀ y ∈ s.all, y.key ≠ n) {x : Rb} (hx : x.key = n) {t : Int} {w : Value} :
    findS { s with H := s.H ++ [x], tk := t } n = some (x, false) ∧ findS { s with W := s.W ++ [x], w := w, tk := t } n = some (x, true) := by
  have h1 : s.H.find? (fun y => decide (y.key = n)) = none := List.find?_eq_none.2 fun y hy => by simpa using hk y (List.mem_append_left _ hy)
  have h2 : s.W.find? (fun y => decide (y.key = n)) = none := List.find?_eq_none.2 fun y hy => by simpa using hk y (List.mem_append_right _ hy)
  constructor
  · unfold findS
    simp [List.find?_append, h1, hx]
  · unfold findS
    simp [List.find?_append, h1, h2, hx]
theorem could_no {s : Lk} {r : Rq} (hc : couldS s r = false) : ∃ y ∈ s.all, agst r y.r = true := by
  unfold couldS at hc
  cases h1 : s.H.any fun y => agst r y.r with
  | true =>
    obtain ⟨y, hy, he⟩ := List.any_eq_true.1 h1
    exact ⟨y, List.mem_append_left _ hy, he⟩
  | false =>
    cases h2 : s.W.any fun y => agst r y.r with
    | true =>
      obtain ⟨y, hy, he⟩ := List.any_eq_true.1 h2
      exact ⟨y, List.mem_append_right _ hy, he⟩
    | false => rw [h1, h2] at hc; cases hc

set_option maxHeartbeats 4000000 in
theorem LocksCould_c {v : Value} {xs : List Lx} {ix ax lx : Int} {alx : Bool} (hv : Lxs h v xs) (hlen : xs.length < 9223372036854775808) (H : ∀ h', Ext h h' → K (.bool true) h') : CallsH Try.prog 6 #[v, lockV ix ax lx alx] h K ⟨⟩ := by
  refine n6_calls ?_
  unfold n6
  rw [show lockV ix ax lx alx = .agg #[.int .i64 ix, .int .i64 ax, .int .i64 lx, .bool alx] from rfl]
  simp (disch := omega)
  refine (fun key => key _ ?_ ?_ ?_ : (∀ g0, Ext h g0 → g0.size = h.size + 1 → g0[h.size]? = some (.cells #[.int .i64 ix, .int .i64 ax, .int .i64 lx, .bool alx] 29) → CallsH Try.prog 8 _ g0 _ ⟨⟩) → _) (fun g0 E0 Z0 X0 => ?_)
  · exact (by repeat' (first | (with_reducible exact Ext.refl _) | (with_reducible assumption) | (with_reducible refine push_ext ?_) | (with_reducible refine hset_ext ?_ ?_) | (with_reducible refine Ext.trans ?_ (by assumption)) | omega | (simp; done) | (simp; omega) | (refine Ext.size ?_) | (refine Nat.le_succ_of_le (Ext.size ?_))))
  · simp
  · exact get_pushed rfl
  obtain ⟨o0, c, rfl⟩ := hv.form
  refine New_v (.refl g0) fun p s g1 e1 hs1 sH sW sw stk _ _ => ?_
  unfold ptrV
  simp (disch := omega)
  refine Split.mk (fun hbig => ?_) (fun hsm => ?_)
  · simp (disch := omega)
    refine works_c fun g2 e2 => ?_
    simp (disch := omega)
    exact H _ (E0.trans (hs1.ext.trans e2))
  · simp (disch := omega)
    have hr0 : RecS [] s := ⟨fun x hx => (by unfold Lk.all at hx; rw [sH, sW] at hx; cases hx), fun y hy => (by cases hy), fun k hk => absurd hk (Nat.not_lt_zero _), by rw [stk]; rfl, by unfold Lk.all; rw [sH, sW]; simp⟩
    refine asked_c hs1 hr0 (hv.ext E0) (by omega) fun w some s' g2 I => ?_
    clear hs1 sH sW sw stk e1 hr0
    obtain ⟨lv, rec_, own, blk, le⟩ := I
    obtain ⟨wa, wc, hw, hwc⟩ := own.form
    have X2 := (lv.ext.block _ (get_some_lt X0)).trans X0
    have x0 := cellOf (i := 0) X2 rfl
    have x0f := frzOf (i := 0) X2
    have hlen' : some.length ≤ 60 := by omega
    have x1 := cellOf (i := 1) X2 rfl
    have x2 := cellOf (i := 2) X2 rfl
    have x3 := cellOf (i := 3) X2 rfl
    refine (⟨_, rfl⟩ : ∃ g, g = hset g2 ⟨h.size, 0, none⟩ (.int .i64 some.length)).elim fun g3 eg => ?_
    have M3 : Mod (· = h.size) g2 g3 := by rw [eg]; exact Mod.set g2 ⟨h.size, 0, none⟩ _
    have X3 : g3[h.size]? = Option.some (.cells #[.int .i64 some.length, .int .i64 ax, .int .i64 lx, .bool alx] 29) := by rw [eg]; exact obj_set X2
    have ft : ∀ b, foot p s' b → h.size + 1 ≤ b := fun b hb => by have := lv.foot b hb; omega
    have lv3 : Lv h g3 p s' := ⟨lv.lks.mod M3 (fun b hb e => by have := ft b hb; have : b = h.size := e; omega) (fun y hy e => by have := lv.req y hy; have : y.b = h.size := e; omega),
      M3.ext_from (E0.trans lv.ext) (fun b hb e => by have : b = h.size := e; omega), fun b hb => by have := ft b hb; omega, fun y hy => by have := lv.req y hy; omega⟩
    have own3 : OwnL g3 w some := OwnT.mod own M3 (fun b hb e => by have := blk b hb; have : b = h.size := e; omega)
    have ld : ∀ {g}, Ext g3 g → hcell g ⟨h.size, 0, none⟩ = Option.some (.int .i64 some.length) ∧ hcell g ⟨h.size, 1, none⟩ = Option.some (.int .i64 ax) ∧ hcell g ⟨h.size, 2, none⟩ = Option.some (.int .i64 lx) ∧ hcell g ⟨h.size, 3, none⟩ = Option.some (.bool alx) := fun e => ⟨hcell_ext e (cellOf (i := 0) X3 rfl), hcell_ext e (cellOf (i := 1) X3 rfl), hcell_ext e (cellOf (i := 2) X3 rfl), hcell_ext e (cellOf (i := 3) X3 rfl)⟩
    have l3 := ld (.refl g3)
    rw [hw]
    simp (disch := omega) [x0, x0f, ← eg, l3]
    refine rMay_c (id := some.length) (a := ax) (l := lx) (al := alx) fun g4 e4 => ?_
    by_cases hm : MayP some.length ax lx
    · rw [decide_eq_true hm]
      have lv4 := lv3.of_ext e4
      simp (disch := omega)
      refine Len_c lv4.lks.toLkAt ?_
      have l4 := ld e4
      simp (disch := omega) [l4]
      refine Could_c (id := some.length) (a := ax) (l := lx) (al := alx) lv4.lks.toLkAt hm fun g5 e5 => ?_
      have lv5 := lv4.of_ext e5
      simp (disch := omega)
      refine Len_c lv5.lks.toLkAt ?_
      have l5 := ld (e4.trans e5)
      simp (disch := omega) [l5]
      have htk := rec_.tk
      have hln := rec_.len
      have hHW : s'.H.length + s'.W.length ≤ some.length := by simpa [Lk.all] using hln
      have hfr := find_none rec_.fresh
      cases hc : couldS s' ⟨some.length, ax, lx, alx, 0⟩ with
      | true =>
        refine Ask_y (id := some.length) (a := ax) (l := lx) (al := alx) lv5 hm rec_.fresh (by omega) (by omega) hc fun b6 g6 lv6 m6 => ?_
        have X6 : g6[h.size]? = Option.some (.cells #[.int .i64 some.length, .int .i64 ax, .int .i64 lx, .bool alx] 29) := (m6.block _ (get_some_lt ((e5.block _ (get_some_lt ((e4.block _ (get_some_lt X3)).trans X3))).trans ((e4.block _ (get_some_lt X3)).trans X3))) (fun e => by have := ft _ e; omega)).trans ((e5.block _ (get_some_lt ((e4.block _ (get_some_lt X3)).trans X3))).trans ((e4.block _ (get_some_lt X3)).trans X3))
        have k6 := cellOf (i := 0) X6 rfl
        simp (disch := omega) [k6]
        have hf6 := (find_mem (t := s'.tk + 1) (w := .slice none 0 0) hfr (show (⟨some.length, b6, ⟨some.length, ax, lx, alx, s'.tk + 1⟩⟩ : Rb).key = some.length from rfl)).1
        refine Holds_c lv6.lks.toLkAt (by omega) (by omega) hf6 fun g7 e7 => ?_
        have lv7 := lv6.of_ext e7
        simp (disch := omega) [hcell_ext e7 k6]
        refine ForH_c lv7.lks.toLkAt (by omega) (by omega) hf6 fun g8 e8 => ?_
        have lv8 := lv7.of_ext e8
        simp (disch := omega)
        refine Len_c lv8.lks.toLkAt ?_
        simp (disch := omega)
        iterate 4 (refine num_c (by omega) (by omega) ?_; try simp (disch := omega))
        refine loopA1 (fun _ : Unit => .int .i64 0) (fun _ g' => g' = g8) (fun _ => 0) () rfl rfl ?_
        rintro _ g' rfl
        simp (disch := omega)
        exact works_c fun g10 e11 => H _ (lv8.ext.trans e11)
      | false =>
        refine Ask_n (id := some.length) (a := ax) (l := lx) (al := alx) lv5 hm rec_.fresh (by omega) (by omega) hc fun b6 w6 g6 lv6 m6 => ?_
        have X5 := (e5.block _ (get_some_lt ((e4.block _ (get_some_lt X3)).trans X3))).trans ((e4.block _ (get_some_lt X3)).trans X3)
        have X6 : g6[h.size]? = Option.some (.cells #[.int .i64 some.length, .int .i64 ax, .int .i64 lx, .bool alx] 29) := (m6.block _ (get_some_lt X5) (fun e => by have := ft _ e; omega)).trans X5
        have k6 := cellOf (i := 0) X6 rfl
        have k6a := cellOf (i := 1) X6 rfl
        have k6b := cellOf (i := 2) X6 rfl
        have k6c := cellOf (i := 3) X6 rfl
        have own5 : OwnL g5 w some := OwnT.ext (OwnT.ext own3 e4) e5
        have own6 : OwnL g6 w some := OwnT.mod own5 m6 (fun b hb e => lv5.lks.toLkAt.notL own5 hb e)
        have hf6 := (find_mem (t := s'.tk + 1) (w := w6) hfr (show (⟨some.length, b6, ⟨some.length, ax, lx, alx, s'.tk + 1⟩⟩ : Rb).key = some.length from rfl)).2
        simp (disch := omega) [k6]
        refine Holds_c lv6.lks.toLkAt (by omega) (by omega) hf6 fun g7 e7 => ?_
        have lv7 := lv6.of_ext e7
        simp (disch := omega) [hcell_ext e7 k6]
        refine ForW_c lv7.lks.toLkAt (by omega) (by omega) hf6 fun l' fv g8 e8 ov8 hmem hl8 => ?_
        have lv8 := lv7.of_ext e8
        have hb6 : ∀ y ∈ s'.all, b6 ≠ y.b := fun y hy e => by
          have := lv6.lks.blks
          rw [(perm_W.map _).nodup_iff, List.map_cons, List.nodup_cons] at this
          exact this.1 (List.mem_map.2 ⟨y, hy, e.symm⟩)
        have hsub : ∀ k ∈ l', ∃ y ∈ s'.all, y.key = k ∧ agst ⟨some.length, ax, lx, alx, s'.tk + 1⟩ y.r = true := fun k hk => by
          rcases (hmem k).1 hk with ⟨y, hy, h1, h2⟩ | ⟨y, hy, h0, h1, h2⟩
          · refine ⟨y, List.mem_append_left _ hy, h2, ?_⟩
            unfold inWay at h1
            simp at h1
            exact h1.2
          · rcases List.mem_append.1 hy with e | e
            · refine ⟨y, List.mem_append_right _ e, h2, ?_⟩
              unfold inWay at h1
              simp at h1
              exact h1.2
            · simp at e; subst e; exact absurd h0 (Int.lt_irrefl _)
        have hall : ∀ k ∈ l', ∃ (n : Nat) (hn : n < some.length), k = n ∧ agst (Lx.rq ⟨some.length, ax, lx, alx⟩ 0) (some[n].rq 0) = true := fun k hk => by
          obtain ⟨y, hy, h1, h2⟩ := hsub k hk
          obtain ⟨n, hn, q1, q2, q3, q4⟩ := rec_.key y hy
          refine ⟨n, hn, h1.symm.trans q1, ?_⟩
          rw [← h2]
          unfold agst Lx.rq
          rw [q2, q3, q4]
        have hpos : 0 < l'.length := by
          obtain ⟨y, hy, hag⟩ := could_no hc
          have hin : inWay ⟨some.length, b6, ⟨some.length, ax, lx, alx, s'.tk + 1⟩⟩ y = true := by
            unfold inWay
            have := hb6 y hy
            simp only [this, decide_false, Bool.not_false, Bool.true_and]
            exact hag
          have : y.key ∈ l' := by
            rw [hmem]
            rcases List.mem_append.1 hy with e | e
            · exact .inl ⟨y, e, hin, rfl⟩
            · refine .inr ⟨y, List.mem_append_left _ e, ?_, hin, rfl⟩
              have := lv5.lks.tks y hy
              show y.r.tk < s'.tk + 1
              omega
          exact List.length_pos_iff.2 (List.ne_nil_of_mem this)
        obtain ⟨fa, fn, fc, hfv, hfn, hfc, hfne⟩ := ov8.form (by omega)
        have hfn' : fn = l'.length := by simpa using hfn.symm
        rw [hfn'] at hfv hfc
        obtain ⟨fb, hfb⟩ := hfne (by intro e; rw [List.map_eq_nil_iff] at e; rw [e] at hpos; simp at hpos)
        rw [hfb] at hfv
        rw [hfv] at ov8
        have hokx : (⟨some.length, ax, lx, alx⟩ : Lx).ok := by
          obtain ⟨_, _, h1, h2, h3, h4⟩ := hm
          exact ⟨h1, h2, by dsimp only; omega⟩
        simp (disch := omega)
        refine Len_c lv8.lks.toLkAt ?_
        rw [hfv]
        simp (disch := omega)
        iterate 4 (refine num_c (by omega) (by omega) ?_; try simp (disch := omega))
        have own8 : OwnL g8 w some := OwnT.ext (OwnT.ext own6 e7) e8
        refine loopX1 (fun i : Nat => .int .i64 i) (fun i g' => Ext g8 g' ∧ i ≤ l'.length) (fun i => l'.length - i) 0 rfl ⟨.refl _, by omega⟩ ?_
        rintro i g' ⟨e10, hi⟩ X hX
        by_cases hil : i < l'.length
        · have hcl := ((ov8.ext e10).elt (i := i) (by simpa using hil)).1
          have hce : (l'.map (Value.int .i64))[i]'(by simpa using hil) = .int .i64 l'[i] := by simp
          rw [hce] at hcl
          obtain ⟨k, hk, hke, hag⟩ := hall l'[i] (List.getElem_mem hil)
          rw [hke] at hcl
          have hsx' := OwnL.lxs (OwnT.ext own8 e10 : OwnL g' w some)
          rw [hw] at hsx'
          obtain ⟨sa', hsa, -, -⟩ := hsx'.some (by omega)
          rw [hsa] at hsx'
          obtain ⟨c0, c1, c2, c3⟩ := hsx'.cell k hk
          have E := (e7.trans e8).trans e10
          have hoky := rec_.ok _ (List.getElem_mem hk)
          have hval : some[k].val = .agg #[.int .i64 some[k].id, .int .i64 some[k].a, .int .i64 some[k].l, .bool some[k].al] := rfl
          simp (disch := omega) [hsa, hcl, c0, c1, c2, c3, hcell_ext E k6, hcell_ext E k6a, hcell_ext E k6b, hcell_ext E k6c]
          refine lawAgainst_c (x := ⟨some.length, ax, lx, alx⟩) (y := some[k]) hokx hoky fun g11 e11 => ?_
          rw [hag]
          simp (disch := omega)
          exact hX (i + 1) _ _ (by simp) ⟨e10.trans e11, by omega⟩ (by omega)
        · simp (disch := omega)
          exact works_c fun g10 e11 => H _ ((lv8.ext.trans e10).trans e11)
    · rw [decide_eq_false hm]
      simp (disch := omega)
      refine works_c fun g5 e5 => ?_
      simp (disch := omega)
      exact H _ ((lv3.of_ext e4).ext.trans e5)
end Go.Proofs.Ytlligpgjkmfhpaa
namespace Go.Proofs.Ytlligpgjkmfhpaa.locksCould
open Go.ChangeShapes Go.WideShapes Go.ChangeAt Go.RowKit Go.Joins Go.Vc

theorem own : ownKnob Try.prog.godebug = none := by kernel_rfl
theorem laidOut : laidOutB Try.prog = true := by kernel_rfl

set_option maxRecDepth 100000 in
set_option maxHeartbeats 1000000 in
theorem lifted (os : Os) (started : os.Started) (H : Type) (enc : TypeId × Value → H) :
    ReturnsInHanded {} Try.checked os 6 .any (Rows.locksCouldSpec.pre6 enc Try.prog Try.f6 Rows.locksCouldRow.domain false) (Rows.locksCouldSpec.post enc Try.prog Try.f6 false true false false) := by
  refine returnsInHanded_of_change (C := Try.checked) own started (by kernel_rfl) Try.func6
    (ChangeSpec.witness6 (enc := enc) (C := Try.checked) false ⟨#[], #[.slice none 0 0, .agg #[.int .i64 0, .int .i64 0, .int .i64 0, .bool false]], []⟩ 8 (by kernel_rfl) (by kernel_rfl) (by kernel_rfl) (by kernel_rfl)) ?_
  intro W base args ds gs before hval0 hW hcnd _
  have hval : ∀ (j : Nat) t v, Try.f6.params[j]? = some t → args[j]? = some v → Value.okWide Try.prog W .any base t v := hval0
  have hW' := hW
  obtain ⟨p, q, hA0, hV, rfl, hfz, hnd⟩ := hW
  have hA : DataW.TrodAll enc Try.prog W 0 (fun _ => true) true Try.f6.params.toList args.toList ds p := hA0
  rw [Try.params6] at hA hval
  obtain ⟨v0, vs0, d0, ds0, p0, q0, hargs, rfl, rfl, h0, r0⟩ := trodAll_cons hA
  obtain ⟨v1, vs1, d1, ds1, p1, q1, rfl, rfl, rfl, h1, r1⟩ := trodAll_cons r0
  obtain ⟨rfl, rfl, rfl⟩ := trodAll_nil r1
  obtain rfl : args = #[v0, v1] := by cases args; simp_all
  obtain ⟨xs, hxs, hml⟩ := open_locks (hval 0 22 v0 rfl rfl) h0
  obtain ⟨i2, a2, l2, b2, rfl⟩ := open_lock (hval 1 29 v1 rfl rfl) h1
  refine ((LocksCould_c (h := W.heap) hxs (Nat.lt_of_le_of_lt hml (by decide)) (K := fun v h' => v = .bool true ∧ Ext W.heap h') (fun h' e => ⟨rfl, e⟩)).out W rfl).mono fun e W' ⟨v, he, hs, hv, hx⟩ => ?_
  exact ⟨v, he, hv ▸ law_post laidOut (by kernel_rfl) rfl (tb := 4) (by kernel_rfl) (by kernel_rfl) hW' (fun hg => by rw [hg]; rfl) (below_of hs hx)⟩

theorem proved : Rows.LocksCouldSaid :=
  OpenClaim.holds_of_wide 6 Try.f6 rfl rfl rfl rfl rfl rfl rfl ⟨rfl, rfl, rfl, rfl, rfl⟩ rfl rfl rfl rfl rfl (by kernel_rfl) Try.func6 (by kernel_rfl)
    (of_decide_eq_true (by kernel_rfl)) (by unfold Func.isWrapper; first | (rw [if_pos (by decide +kernel)]; kernel_rfl) | (rw [if_neg (by decide +kernel)]; exact ⟨rfl, rfl⟩))
    (fun os started H enc _ => lifted os started H enc)
end Go.Proofs.Ytlligpgjkmfhpaa.locksCould
