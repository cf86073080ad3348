/- What is proved: the law palimpsestlaw13.LaterPlays returns true for every input, and its arguments read as they did. No conditions. -/
import Derived.Test.YtgcllbelgakjgaaRows
import Derived.Test.YtgcllbelgakjgaaLatH
set_option linter.unusedSimpArgs false
set_option linter.unusedVariables false
namespace Go.Proofs.Ytgcllbelgakjgaa
open Go.Vc
variable {K : Value → Heap → Prop} {h : Heap}

theorem own_nil {e s : Nat} : OwnT e s h (.slice none 0 0) [] := .nil
set_option maxHeartbeats 4000000 in
theorem LaterPlays_c {fv sv : Value} {first : List (Int × Int)} {xs : List Stp} (rf : Rws h fv first) (sp : Sps h sv xs) (H : ∀ h', Ext h h' → K (.bool true) h') : CallsH Try.prog 7 #[fv, sv] h K ⟨⟩ := by
  refine n7_calls ?_
  unfold n7
  obtain ⟨fa, fc, rfl, hfc⟩ := rf.form
  obtain ⟨sa, sc, rfl⟩ := sp.form
  have hxl := sp.len
  have hfl := rf.few
  by_cases h40 : xs.length ≤ 40
  case neg =>
    simp (disch := omega)
    exact works_c fun h' e => H h' e
  by_cases f40 : first.length ≤ 40
  case neg =>
    simp (disch := omega)
    exact works_c fun h' e => H h' e
  simp (disch := omega)
  refine (⟨_, rfl⟩ : ∃ f, f = h.push (.cells #[.slice none 0 0] rlT)).elim fun g0 eg => ?_
  have e0 : Ext h g0 := by rw [eg]; exact (by repeat' (first | (with_reducible exact Ext.refl _) | (with_reducible assumption) | (with_reducible refine push_ext ?_) | (with_reducible refine hset_ext ?_ ?_) | (with_reducible refine Ext.trans ?_ (by assumption)) | omega | (simp; done) | (simp; omega) | (refine Ext.size ?_) | (refine Nat.le_succ_of_le (Ext.size ?_))))
  have q0 : g0[h.size]? = some (.cells #[.slice none 0 0] rlT) := by rw [eg]; exact get_pushed rfl
  rw [show h.push (.cells #[.slice none 0 0] 53) = g0 from eg.symm]
  clear eg
  have a0 : Rl g0 h.size (.slice none 0 0) [] := ⟨q0, .nil, trivial, fun x hx => (by cases hx), by simp⟩
  have hplen : (putR [] (first.map rnOf)).length ≤ 40 := by
    have := putR_len (first.map rnOf) []
    simp at this
    omega
  have hff : first ≠ [] → ∀ b, blkV (.slice fa first.length fc) = some b → b < h.size := fun hne b hb => rf.lt hne hb
  refine rPut_c a0 (rf.ext e0) (by omega) (fun hne b hb => by have := hff hne b hb; omega) (fun h1 e1 hm => ?_) (fun h1 e1 hm hf => absurd hf (by omega)) (fun v1 h1 hm u1 => ?_)
  · simp (disch := omega)
    refine New_c (rf.ext (e0.trans e1)) (by omega) (fun h2 e2 _ => ?_) (fun h2 e2 hm' => absurd hm' hm) (fun q s h2 hm' => absurd hm' hm)
    simp (disch := omega)
    refine num_c ?_
    simp (disch := omega)
    refine works_c fun h3 e3 => ?_
    simp (disch := omega)
    exact H _ ((e0.trans e1).trans (e2.trans e3))
  have rf1 : Rws h1 (.slice fa first.length fc) first := by
    by_cases hne : first = []
    · rw [hne] at rf ⊢; exact rf.zero
    · exact (rf.ext e0).mod u1.mod (fun b hb e => by have := hff hne b hb; have e' : b = h.size := e; omega)
  have E1 : Ext h h1 := u1.mod.ext_from e0 (fun b hb e => by have e' : b = h.size := e; omega)
  simp (disch := omega)
  refine New_c rf1 (by omega) (fun h2 e2 hm' => absurd hm hm') (fun h2 e2 _ hf => absurd hf (by omega)) (fun q s h2 _ a2 e2 ft2 => ?_)
  have z1 := u1.mod.size
  have z0 := get_some_lt q0
  have hd2 := u1.st.ext e2
  have b2 : Bo h2 q s h.size v1 (putR [] (first.map rnOf)) := ⟨a2, hd2, fun hf => by have := ft2 _ hf; omega, fun c hc hf => by have := ft2 _ hf; have := u1.st.own.lt hc; omega⟩
  have PI0 : PI h h2 q s h.size v1 (putR [] (first.map rnOf)) [] (.slice none 0 0) (.slice none 0 0) := ⟨b2, E1.trans e2, fun b hb => by have := ft2 b hb; have := E1.size; omega, Nat.le_refl _, .nil, .nil, fun b hb => (by cases hb), fun b hb => (by cases hb), fun b hb => (by cases hb), fun o ho => (by cases ho), fun o ho => (by cases ho), fun o ho => (by cases ho), fun o ho => (by cases ho)⟩
  generalize putR [] (first.map rnOf) = L at *
  unfold ptrV
  simp (disch := omega)
  refine num_c ?_
  simp (disch := omega)
  refine loopX4 (α := ((Nat × Lq) × (Value × List Rn)) × ((List Od × Value × Value) × Nat)) (fun a => ptrV a.1.1.1) (fun a => a.2.1.2.1) (fun a => a.2.1.2.2) (fun a => .int .i64 a.2.2) (fun a' g => a'.2.2 ≤ xs.length ∧ a'.2.1.1.length ≤ a'.2.2 ∧ PI h g a'.1.1.1 a'.1.1.2 h.size a'.1.2.1 a'.1.2.2 a'.2.1.1 a'.2.1.2.1 a'.2.1.2.2) (fun a => xs.length - a.2.2) (((q, s), (v1, L)), (([], .slice none 0 0, .slice none 0 0), 0)) ⟨rfl, rfl, rfl, rfl⟩ ⟨by simp, by simp, PI0⟩ ?_
  clear PI0 b2 hd2 a2 ft2
  rintro ⟨⟨⟨q, s⟩, ⟨v, L⟩⟩, ⟨⟨O, ov, wv⟩, i⟩⟩ g ⟨hi, hO, hP⟩ X hX
  dsimp only at hi hO hP hX ⊢
  by_cases hin : i < xs.length
  · obtain ⟨ad, sc', hv', c0, c1, c2, c3, c4, c5⟩ := (sp.ext hP.ext).cell hin
    obtain ⟨rfl, -⟩ : sa = some ad ∧ sc = sc' := by cases hv'; exact ⟨rfl, rfl⟩
    have hok0 := sp.ok _ (List.getElem_mem hin)
    generalize hx : xs[i] = x at *
    obtain ⟨oa, oc, ov9, hoc⟩ := hok0.l.form
    rw [ov9] at c2
    have hkd := hok0.kind
    have hlv := hok0.leave
    unfold i64 at hkd
    by_cases x40 : x.l.length ≤ 40
    case neg =>
      simp (disch := omega) [c2]
      exact works_c fun h' e => H _ (hP.ext.trans e)
    simp (disch := omega) [c2]
    refine JoinN_in3 (fun q8 old was g' => ∃ (q' : Nat) (s' : Lq) (O' : List Od), q8 = ptrV q' ∧ O'.length ≤ i + 1 ∧ PI h g' q' s' h.size v L O' old was) (fun kk hkk => ?_) (fun q8 old was g' hq => ?_)
    · obtain ⟨va, vc, rfl, hvc⟩ := hP.bo.doc.form
      by_cases k9 : x.kind = 9
      · rw [k9] at c0
        simp (disch := omega) [c0, ptrV]
        have E1 : Ext g (g.push (.cells #[ptrV q] plT)) := (by repeat' (first | (with_reducible exact Ext.refl _) | (with_reducible assumption) | (with_reducible refine push_ext ?_) | (with_reducible refine hset_ext ?_ ?_) | (with_reducible refine Ext.trans ?_ (by assumption)) | omega | (simp; done) | (simp; omega) | (refine Ext.size ?_) | (refine Nat.le_succ_of_le (Ext.size ?_))))
        have hP1 := hP.ext' E1
        have hn1 : (O.map fun o => ptrV o.q).length = O.length * 1 := by simp
        refine Hp_appendT (e := plT) (s := 1) (by_ := 8) (n := O.length) (k := 1) (news := [ptrV q]) (by kernel_rfl) (by kernel_rfl) hP1.oo hn1 (by omega) (Src_new (vs := [ptrV q]) rfl) (by simp [one, ptrV]) (by omega) (by omega) fun ov1 g1 oo1 mo1 fo1 hne1 => ?_
        have doc1 := hP1.bo.doc.mod mo1 (fun e => (hP1.oo.ne e hP1.bo.doc.cells (by unfold plT rlT; omega)) rfl) (fun b hb e => by
          obtain ⟨arr, ha⟩ := hP1.oo.tag e
          exact hP1.bo.doc.own.ne hb ha (by unfold runT plT; omega) rfl)
        simp (disch := omega) [cellOf (i := 0) doc1.cells rfl]
        have hn2 : (O.map (·.v)).length = O.length * 1 := by simp
        have w1 := hP1.ow.mod mo1 (fun b hb e => by
          obtain ⟨arr, ha⟩ := hP1.oo.tag e
          exact hP1.ow.ne hb ha (by unfold rlT plT; omega) rfl)
        have E2 : Ext g1 (g1.push (.cells #[.slice va L.length vc] rlT)) := (by repeat' (first | (with_reducible exact Ext.refl _) | (with_reducible assumption) | (with_reducible refine push_ext ?_) | (with_reducible refine hset_ext ?_ ?_) | (with_reducible refine Ext.trans ?_ (by assumption)) | omega | (simp; done) | (simp; omega) | (refine Ext.size ?_) | (refine Nat.le_succ_of_le (Ext.size ?_))))
        have z1' := mo1.size
        refine Hp_appendT (e := rlT) (s := 1) (by_ := 24) (n := O.length) (k := 1) (news := [.slice va L.length vc]) (by kernel_rfl) (by kernel_rfl) (w1.ext E2) hn2 (by omega) (Src_new (vs := [.slice va L.length vc]) rfl) (by simp [one]) (by omega) (by omega) fun wv1 g2 ow2 mo2 fo2 hne2 => ?_
        have oo2 := (oo1.ext E2).mod mo2 (fun b hb e => by
          obtain ⟨arr, ha⟩ := (w1.ext E2).tag e
          exact (oo1.ext E2).ne hb ha (by unfold rlT plT; omega) rfl)
        have M02 : Mod (fun b => blkV ov = some b ∨ blkV wv = some b) g g2 := (Mod.extIn ((Mod.of_ext E1).trans mo1 (fun b _ e => .inl e)) E2).trans mo2 (fun b _ e => .inr e)
        have lq2 : LqAt g2 q s L := by
          refine ((hP1.bo.st.mod mo1 (fun b hb e => ?_)).ext E2).mod mo2 (fun b hb e => ?_)
          · obtain ⟨arr, ha⟩ := hP1.oo.tag e
            exact hP1.bo.st.nf ha (.inl rfl) hb
          · obtain ⟨arr, ha⟩ := hP1.ow.tag e
            exact hP1.bo.st.nf ha (.inr rfl) hb
        obtain ⟨ob, oc1, rfl⟩ := hne1 (by simp)
        obtain ⟨wb, wc1, rfl⟩ := hne2 (by simp)
        refine Copy_c lq2 fun q' s' g3 lq3 e3 f3 => ?_
        have z0 : g.size < g1.size := by have := mo1.size; simp at this; omega
        have z2 : g1.size < g2.size := by have := mo2.size; simp at this; omega
        have hlast : hcell g3 ⟨ob, O.length, none⟩ = some (ptrV q) := by
          have := (oo2.cell (i := O.length) (by simp)).1
          simp at this
          exact hcell_ext e3 this
        unfold ptrV at hlast
        have hsub : ((O.length : Int) + 1 - 1) = (O.length : Int) := by omega
        unfold ptrV
        simp (disch := omega) [hsub, elt_mk, hlast]
        refine Same_c lq3 (lq2.ext e3) fun g4 e4 => ?_
        simp (disch := omega)
        refine hkk _ _ _ _ ⟨q', s', O ++ [⟨q, s, .slice va L.length vc, L⟩], rfl, by simp; omega, ?_⟩
        refine hP.new (Mod.extIn M02 (e3.trans e4)) ?_ ?_ (fun b hb => ?_) (fun b hb => ?_) (lq3.ext e4) (fun b hb => by have := f3 b hb; omega)
        · rw [List.map_append]
          exact oo2.ext (e3.trans e4)
        · rw [List.map_append]
          exact ow2.ext (e3.trans e4)
        · rcases fo1 b hb with e | e
          · exact .inl e
          · simp at e; exact .inr (by omega)
        · rcases fo2 b hb with e | e
          · exact .inl e
          · simp at e; exact .inr (by omega)
      · simp (disch := omega) [c0, k9]
        exact hkk _ _ _ _ ⟨q, s, O, rfl, by omega, hP⟩
    · obtain ⟨q', s', O', rfl, hO', hP'⟩ := hq
      clear hP hO
      obtain ⟨ad', sc', hv', c0, c1, c2, c3, c4, c5⟩ := (sp.ext hP'.ext).cell hin
      cases hv'
      rw [hx] at c0 c1 c2 c3 c4 c5
      rw [ov9] at c2
      have hsv : stpV x = .agg #[.int .i64 x.kind, .int .i64 x.leave, .slice oa x.l.length oc, .int .i64 x.x.1, .int .i64 x.x.2, .int .i64 x.n] := by unfold stpV stpC; rw [ov9]
      unfold ptrV
      simp (disch := omega) [c0, c1, c2, c3, c4, c5]
      rw [← hsv]
      refine step_c (t := x) hP'.bo (hok0.ext hP'.ext) (by omega) (fun hne b hb => ?_) fun s2 v2 L2 g2 u => ?_
      · have := Rws.lt hok0.l hne hb
        exact ⟨fun hf => by have := hP'.ft b hf; omega, by omega⟩
      have hP2 := hP'.upd u
      simp (disch := omega)
      refine All_c hP2.bo.st fun sb wv2 g3 e3 sq3 z3 f3 => ?_
      refine Size_c (hP2.bo.st.ext e3) fun g4 e4 => ?_
      have hP4 := hP2.ext' (e3.trans e4)
      have r4 := hP4.bo.doc.rns
      have hl4 := hP4.bo.doc.len
      have k4 := cellOf (i := 0) hP4.bo.doc.cells rfl
      obtain ⟨ya, yc, rfl, hyc⟩ := hP4.bo.doc.form
      have hB := bytes_fit hP4.bo.st.can hP4.bo.st.fitL
      simp (disch := omega) [k4]
      refine refBytes_c r4 hB fun g5 e5 => ?_
      have hP5 := hP4.ext' e5
      have k5 := cellOf (i := 0) hP5.bo.doc.cells rfl
      obtain ⟨ad5, sc5, hv5, d0, d1, d2, d3, d4, d5⟩ := (sp.ext hP5.ext).cell hin
      cases hv5
      rw [hx] at d1
      simp (disch := omega) [k5, d1]
      refine goes_c ((sq3.ext e4).ext e5) hP5.bo.doc.rns hlv fun g6 e6 => ?_
      have hP6 := hP5.ext' e6
      have k6 := cellOf (i := 0) hP6.bo.doc.cells rfl
      simp (disch := omega) [k6]
      refine goes_c (leave := 0) (((sq3.ext e4).ext e5).ext e6) hP6.bo.doc.rns (by unfold i64; omega) fun g7 e7 => ?_
      simp (disch := omega)
      exact hX (((q', s2), (.slice ya L2.length yc, L2)), ((O', old, was), i + 1)) _ _ _ _ _ rfl rfl rfl (by simp) ⟨hin, hO', hP6.ext' e7⟩ (by dsimp only; omega)
  · obtain rfl : i = xs.length := by omega
    simp (disch := omega)
    clear hX
    have hOl : ov = ov := rfl
    obtain ⟨va, vc, rfl, hvc⟩ := hP.bo.doc.form
    obtain ⟨oa, on, oc, rfl, hon, hoc, hob⟩ := hP.oo.form (by omega)
    obtain ⟨wa, wn, wc, rfl, hwn, hwc, hwb⟩ := hP.ow.form (by omega)
    simp only [List.length_map, Nat.mul_one] at hon hwn
    subst hon hwn
    refine loopX1 (α := Nat) (fun k => .int .i64 k) (fun k g' => k ≤ O.length ∧ Ext g g') (fun k => O.length - k) 0 rfl ⟨by omega, .refl _⟩ ?_
    rintro k g1 ⟨hk, e1⟩ X hX
    have hP1 := hP.ext' e1
    by_cases hkn : k < O.length
    · have hne : O ≠ [] := fun e => by rw [e] at hkn; cases hkn
      obtain ⟨ob, rfl⟩ := hob (by simpa using hne)
      obtain ⟨wb, rfl⟩ := hwb (by simpa using hne)
      have co := (hP1.oo.cell (i := k) (by simpa using hkn)).1
      have cw := (hP1.ow.cell (i := k) (by simpa using hkn)).1
      simp only [List.getElem_map] at co cw
      have hmem := List.getElem_mem hkn
      generalize O[k] = o at *
      have lqo := hP1.od o hmem
      have ovo := hP1.odv o hmem
      obtain ⟨oq, os, ovv, oL⟩ := o
      dsimp only at co cw lqo ovo
      have hlo := lqo.len
      have rno := Rns.of ovo (by omega) lqo.fitL
      obtain ⟨xa, xc, rfl, hxc⟩ := Rns.form rno
      unfold ptrV at co ⊢
      simp (disch := omega) [elt_mk, co, cw]
      refine All_c lqo fun sb wv2 g3 e3 sq3 z3 f3 => ?_
      have cw3 := hcell_ext e3 cw
      have co3 := hcell_ext e3 co
      refine ⟨by simp (disch := omega) [elt_mk, cw3], ?_⟩
      refine goes_c (leave := 0) sq3 (rno.ext e3) (by unfold i64; omega) fun g4 e4 => ?_
      have hP4 := hP1.ext' (e3.trans e4)
      have k4 := cellOf (i := 0) hP4.bo.doc.cells rfl
      have cw4 := hcell_ext e4 cw3
      have co4 := hcell_ext e4 co3
      simp (disch := omega) [elt_mk, cw4, co4, k4]
      refine Same_c (lqo.ext (e3.trans e4)) hP4.bo.st fun g5 e5 => ?_
      have hP5 := hP4.ext' e5
      have k5 := cellOf (i := 0) hP5.bo.doc.cells rfl
      have cw5 := hcell_ext e5 cw4
      have co5 := hcell_ext e5 co4
      simp (disch := omega) [elt_mk, cw5, co5, k5]
      refine refSame_c ((rno.ext (e3.trans e4)).ext e5) hP5.bo.doc.rns ?_
      simp (disch := omega) [elt_mk, co5]
      refine Same_n (lqo.ext ((e3.trans e4).trans e5)) (.inl rfl) ?_
      simp (disch := omega)
      exact hX (k + 1) _ _ (by simp) ⟨hkn, e1.trans ((e3.trans e4).trans e5)⟩ (by omega)
    · simp (disch := omega)
      refine nothing_c fun g2 e2 => ?_
      simp (disch := omega)
      refine works_c fun g3 e3 => ?_
      simp (disch := omega)
      exact H _ (hP1.ext.trans (e2.trans e3))
end Go.Proofs.Ytgcllbelgakjgaa
namespace Go.Proofs.Ytgcllbelgakjgaa.laterPlays
open Go.ChangeShapes Go.WideShapes Go.ChangeAt Go.RowKit Go.Joins Go.Vc

theorem own : ownKnob Try.prog.godebug = none := by kernel_rfl
theorem laidOut : laidOutB Try.prog = true := by kernel_rfl

set_option maxRecDepth 100000 in
set_option maxHeartbeats 1000000 in
theorem lifted (os : Os) (started : os.Started) (H : Type) (enc : TypeId × Value → H) :
    ReturnsInHanded {} Try.checked os 7 .any (Rows.laterPlaysSpec.pre6 enc Try.prog Try.f7 Rows.laterPlaysRow.domain false) (Rows.laterPlaysSpec.post enc Try.prog Try.f7 false true false false) := by
  refine returnsInHanded_of_change (C := Try.checked) own started (by kernel_rfl) Try.func7
    (ChangeSpec.witness6 (enc := enc) (C := Try.checked) false ⟨#[], #[.slice none 0 0, .slice none 0 0], []⟩ 8 (by kernel_rfl) (by kernel_rfl) (by kernel_rfl) (by kernel_rfl)) ?_
  intro W base args ds gs before hval0 hW hcnd _
  have hval : ∀ (j : Nat) t v, Try.f7.params[j]? = some t → args[j]? = some v → Value.okWide Try.prog W .any base t v := hval0
  have hW' := hW
  obtain ⟨p, q, hA0, hV, rfl, hfz, hnd⟩ := hW
  have hA : DataW.TrodAll enc Try.prog W 0 (fun _ => true) true Try.f7.params.toList args.toList ds p := hA0
  rw [Try.params7] at hA hval
  obtain ⟨v0, vs0, d0, ds0, p0, q0, hargs, rfl, rfl, h0, r0⟩ := trodAll_cons hA
  obtain ⟨v1, vs1, d1, ds1, p1, q1, rfl, rfl, rfl, h1, r1⟩ := trodAll_cons r0
  obtain ⟨rfl, rfl, rfl⟩ := trodAll_nil r1
  obtain rfl : args = #[v0, v1] := by cases args; simp_all
  obtain ⟨l, hl⟩ := open_runs (hval 0 22 v0 rfl rfl) h0
  obtain ⟨xs, hxs⟩ := open_steps (hval 1 50 v1 rfl rfl) h1
  refine ((LaterPlays_c (h := W.heap) hl hxs (K := fun v h' => v = .bool true ∧ Ext W.heap h') (fun h' e => ⟨rfl, e⟩)).out W rfl).mono fun e W' ⟨v, he, hs, hv, hx⟩ => ?_
  exact ⟨v, he, hv ▸ law_post laidOut (by kernel_rfl) rfl (tb := 4) (by kernel_rfl) (by kernel_rfl) hW' (fun hg => by rw [hg]; rfl) (below_of hs hx)⟩

theorem proved : Rows.LaterPlaysSaid :=
  OpenClaim.holds_of_wide 7 Try.f7 rfl rfl rfl rfl rfl rfl rfl ⟨rfl, rfl, rfl, rfl, rfl⟩ rfl rfl rfl rfl rfl (by kernel_rfl) Try.func7 (by kernel_rfl)
    (of_decide_eq_true (by kernel_rfl)) (by unfold Func.isWrapper; first | (rw [if_pos (by decide +kernel)]; kernel_rfl) | (rw [if_neg (by decide +kernel)]; exact ⟨rfl, rfl⟩))
    (fun os started H enc _ => lifted os started H enc)
end Go.Proofs.Ytgcllbelgakjgaa.laterPlays
