/- What is proved: the law palimpsestlaw06.StoreFlushed returns true for every input, and its arguments read as they did. No conditions. -/
import Derived.Test.YtdmcaaojapcbcaaRows
import Derived.Test.YtdmcaaojapcbcaaSto23
set_option linter.unusedSimpArgs false
set_option linter.unusedVariables false
namespace Go.Proofs.Ytdmcaaojapcbcaa
open Go.Vc
variable {K : Value → Heap → Prop} {h : Heap}

theorem stp_len (l : List Stp) : (l.flatMap Stp.cells).length = l.length * 7 := by
  induction l with | nil => rfl | cons f l ih => rw [List.flatMap_cons, List.length_append, ih]; simp [Stp.cells]; omega
theorem flat_seg {α : Type} {s : Nat} {f : α → List Value} (hf : ∀ x, (f x).length = s) : ∀ (l : List α) (i : Nat) (hi : i < l.length) (j : Nat) (hj : j < s), (l.flatMap f)[i * s + j]? = (f l[i])[j]?
  | x :: l, 0, _, j, hj => by
    simp only [Nat.zero_mul, Nat.zero_add, List.flatMap_cons, List.getElem_cons_zero]
    rw [List.getElem?_append_left (by rw [hf]; exact hj)]
  | x :: l, i + 1, hi, j, hj => by
    have ih := flat_seg hf l i (by simpa using hi) j hj
    rw [List.flatMap_cons, List.getElem?_append_right (by rw [hf, Nat.add_mul]; omega), hf, List.getElem_cons_succ, ← ih]
    congr 1
    rw [Nat.add_mul]; omega
/-- Steps that stand in a slice of one's own. -/
theorem Sps.own {e : Nat} {v : Value} {xs : List Stp} (o : OwnG e 7 h v (xs.flatMap Stp.cells)) (hk : ∀ x ∈ xs, StpOk h x) (hl : xs.length < 9223372036854775808) (hne : xs = [] → v = .slice none 0 0) : Sps h v xs := by
  refine ⟨?_, hk, hl⟩
  by_cases hx : xs = []
  · exact .inl ⟨hne hx, hx⟩
  obtain ⟨a, n, c, rfl, h1, h2, h3⟩ := o.form
  rw [stp_len] at h1
  obtain rfl : n = xs.length := by omega
  have hpos : 0 < xs.length := List.length_pos_iff.2 hx
  obtain ⟨b, oo, rfl⟩ := h3 (by intro e; have := stp_len xs; rw [e] at this; simp at this; omega)
  refine .inr ⟨_, c, rfl, h2, fun i hi => ⟨_, rfl, fun j hj => ?_, rfl⟩⟩
  have hj7 : j < 7 := by simpa [Stp.cells] using hj
  have hlen := stp_len xs
  have hlt : i * 7 + j < (xs.flatMap Stp.cells).length := by omega
  have := flat_seg (s := 7) (f := Stp.cells) (fun x => rfl) xs i hi j hj7
  rw [List.getElem?_eq_getElem hlt, List.getElem?_eq_getElem hj] at this
  rw [elt_elt, (o.cell hlt).1, Option.some.inj this]

set_option maxHeartbeats 8000000 in
theorem StoreFlushed_c {w u z : Value} {xs : List Stp} {ks js : List Int} (hs : Sps h w xs) (hk : Its h u ks) (hj : Its h z js) (H : ∀ h', Ext h h' → K (.bool true) h') : CallsH Try.prog 5 #[w, u, z] h K ⟨⟩ := by
  refine n5_calls ?_
  unfold n5
  obtain ⟨wa, wc, rfl⟩ := hs.form
  obtain ⟨ua, uc, rfl, huc⟩ := hk.form
  obtain ⟨za, zc, rfl, hzc⟩ := hj.form
  have l2 := hs.len
  have l3 := hk.few
  have l4 := hj.few
  refine vast6_c hs (fun h1 e1 => ?_) (fun h1 e1 hn hlim => ?_)
  · simp (disch := omega)
    exact known6_c fun h2 e2 => H h2 (e1.trans e2)
  simp (disch := omega)
  by_cases hb1 : 300 < ks.length
  · simp (disch := omega)
    exact known6_c fun h2 e2 => H h2 (e1.trans e2)
  by_cases hb2 : 300 < js.length
  · simp (disch := omega)
    exact known6_c fun h2 e2 => H h2 (e1.trans e2)
  simp (disch := omega)
  refine loopX2 (α := Nat × Value) (fun a => a.2) (fun a => .int .i64 a.1) (fun a g => a.1 ≤ xs.length ∧ Ext h1 g ∧ OwnG 61 7 g a.2 (((xs.take a.1).filter fun x => decide (x.kind ≠ 7)).flatMap Stp.cells) ∧ (∀ b, blkG a.2 = some b → h1.size ≤ b) ∧ ((xs.take a.1).filter (fun x => decide (x.kind ≠ 7)) = [] → a.2 = .slice none 0 0)) (fun a => xs.length - a.1) (0, .slice none 0 0) ⟨rfl, rfl⟩ ⟨Nat.zero_le _, .refl _, .nil, fun b hb => (by cases hb), fun _ => rfl⟩ ?_
  rintro ⟨i, sv⟩ g ⟨hi, eg, os, hob, hnil⟩ X hX
  dsimp only at hi os hob hnil hX ⊢
  by_cases hin : i < xs.length
  · obtain ⟨ad, c', hv, q0, q1, q2, q3, q4, q5, q6⟩ := ((hs.ext e1).ext eg).cell hin
    cases hv
    have hxm := List.getElem_mem hin
    have ok := hs.ok _ hxm
    obtain ⟨bo, bc, hbv⟩ := ok.b.form
    obtain ⟨fo, fc, hfv, -⟩ := ok.fs.form
    obtain ⟨po, pc, hpv, -⟩ := ok.pl.form
    have ht : (xs.take (i + 1)).filter (fun x => decide (x.kind ≠ 7)) = (xs.take i).filter (fun x => decide (x.kind ≠ 7)) ++ (if xs[i].kind ≠ 7 then [xs[i]] else []) := by
      rw [List.take_succ_eq_append_getElem hin, List.filter_append]
      congr 1
      by_cases h : xs[i].kind = 7 <;> simp [h]
    rw [hbv] at q4
    rw [hfv] at q5
    rw [hpv] at q6
    simp (disch := omega)
    refine JoinN.mk ?_
    refine JoinN.mk ?_
    by_cases h7 : xs[i].kind = 7
    · simp (disch := omega) [q0, h7]
      rw [if_neg (by simp [h7])] at ht
      simp only [List.append_nil] at ht
      exact hX (i + 1, sv) _ _ _ rfl (by simp) ⟨hin, eg, by dsimp only; rw [ht]; exact os, hob, by dsimp only; rw [ht]; exact hnil⟩ (by dsimp only; omega)
    · simp (disch := omega) [q0, q1, q2, q3, q4, q5, q6, h7]
      rw [if_pos h7] at ht
      have hfl : ((xs.take i).filter fun x => decide (x.kind ≠ 7)).length ≤ 120 := by
        have := List.length_filter_le (fun x : Stp => decide (x.kind ≠ 7)) (xs.take i)
        have := List.length_take_le i xs
        omega
      have eP : ∀ o : Obj, Ext g (g.push o) := fun o => (by repeat' (first | (with_reducible exact Ext.refl _) | (with_reducible assumption) | (with_reducible refine push_ext ?_) | (with_reducible refine hset_ext ?_ ?_) | (with_reducible refine Ext.trans ?_ (by assumption)) | omega | (simp; done) | (simp; omega) | (refine Ext.size ?_) | (refine Nat.le_succ_of_le (Ext.size ?_))))
      refine Hp_appendG (e := 61) (s := 7) (by_ := 112) (n := ((xs.take i).filter fun x => decide (x.kind ≠ 7)).length) (k := 1) (news := [.int .i64 xs[i].kind, .int .i64 xs[i].n, .int .i64 xs[i].at_, str xs[i].name, .slice bo xs[i].b.length bc, .slice fo xs[i].fs.length fc, .slice po xs[i].pl.length pc]) (by kernel_rfl) (by kernel_rfl) (os.ext (eP _)) (stp_len _) (by omega)
        (.inr (.inl ⟨_, 1, rfl, rfl, Seg_new rfl⟩)) (by simp [one, str]) (by omega) (by omega) fun sv' g5 o5 m5 f5 _ => ?_
      simp (disch := omega)
      have hgz := eg.size
      refine hX (i + 1, sv') _ _ _ rfl (by simp) ⟨hin, m5.ext_from (eg.trans (eP _)) (fun b hb e => by have := hob b e; omega), ?_, fun b hb => (f5 b hb).elim (hob b) (fun e => by simp at e; omega), fun e => ?_⟩ (by dsimp only; omega)
      · dsimp only
        rw [ht, List.flatMap_append]
        have : [xs[i]].flatMap Stp.cells = [.int .i64 xs[i].kind, .int .i64 xs[i].n, .int .i64 xs[i].at_, str xs[i].name, .slice bo xs[i].b.length bc, .slice fo xs[i].fs.length fc, .slice po xs[i].pl.length pc] := by
          simp [Stp.cells, hbv, hfv, hpv]
        rw [this]; exact o5
      · dsimp only at e
        rw [ht] at e; simp at e
  obtain rfl : i = xs.length := by omega
  simp (disch := omega)
  rw [List.take_length] at os hnil
  have hsub : ∀ x ∈ xs.filter (fun x => decide (x.kind ≠ 7)), x ∈ xs ∧ x.kind ≠ 7 := fun x hx => by simpa using hx
  have eg1 : Ext h g := e1.trans eg
  have hlf : (xs.filter fun x => decide (x.kind ≠ 7)).length ≤ xs.length := List.length_filter_le _ _
  have hsp : Sps g sv (xs.filter fun x => decide (x.kind ≠ 7)) := Sps.own os (fun x hx => (hs.ok x (hsub x hx).1).ext eg1) (by omega) hnil
  have hf0 : Fas g (.slice none 0 0) [] := ⟨.inl ⟨rfl, rfl, rfl⟩, ⟨none, 0, rfl, Nat.le_refl _⟩, by decide, fun f hf => by cases hf⟩
  refine play_c true hf0 rfl (by decide) hsp (by omega) (fun x hx => hlim x (hsub x hx).1) (fun _ => ⟨rfl, fun x hx => (hsub x hx).2⟩) fun h2 p s I => ?_
  have e2 : Ext h h2 := eg1.trans I.ext
  have hz2 := I.ext.size
  have hf2 : ∀ b, s.foot p b → g.size ≤ b := I.foot
  refine Names_c I.st fun h3 nv L e3 pm so oL fL => ?_
  have hLl : L.length = s.F.length := by rw [pm.length_eq, List.length_map]
  have hfew := I.st.few
  obtain ⟨na, nn, nc, rfl, hnl, hnc, hnne⟩ := oL.form (by omega)
  obtain rfl : nn = L.length := by simpa using hnl.symm
  have hnd : L.Nodup := pm.nodup_iff.2 I.st.nodup
  have I3 := I.of_ext e3 (Nat.le_refl _) (Nat.le_refl _)
  refine loopX1 (α := Nat × St) (fun a => .int .i64 a.1) (fun a g' => a.1 ≤ L.length ∧ PI g g' p a.2 (120 + a.1) 8000 true ∧ a.2.F.map (·.name) = s.F.map (·.name) ∧ (∀ x ∈ a.2.F, x.name ∈ L.take a.1 → x.qs = []) ∧ OwnT stT 1 g' (.slice na L.length nc) (L.map str) ∧ ∀ b, blkV (.slice na L.length nc) = some b → ¬ a.2.foot p b) (fun a => L.length - a.1) (0, s) rfl
    ⟨Nat.zero_le _, I3, rfl, fun x _ hx => by simp at hx, oL, fun b hb e => by have := fL b hb; have := I.st.lt e; omega⟩ ?_
  rintro ⟨i, s'⟩ g' ⟨hi, I', hnm, hps, og, hnf⟩ X hX
  dsimp only at hi I' hnm hps hnf hX ⊢
  by_cases hil : i < L.length
  · obtain ⟨nb, rfl⟩ := hnne (by intro e; have h9 := congrArg List.length e; simp at h9; rw [h9] at hil; simp at hil)
    have ci := (og.elt (i := i) (by simpa using hil)).1
    have ce : (L.map str)[i]'(by simpa using hil) = str L[i] := by simp
    rw [ce] at ci
    have hmem : L[i] ∈ s'.F.map (·.name) := by rw [hnm]; exact pm.mem_iff.1 (List.getElem_mem hil)
    obtain ⟨x, hx, hxn⟩ := List.mem_map.1 hmem
    have hgx := get_of I'.st hx hxn
    have ho : okName L[i] := hxn ▸ I'.st.names x hx
    have hst := I'.steps
    simp (disch := omega) [ci]
    refine Flush_c I'.st (by have := ho.2.1; omega) (by omega) (fun h4 e4 hne => absurd ?_ hne) (fun h4 A B y y' fv hF hyn hyn' hyf u4 => ?_)
    · unfold fErr; rw [if_pos ho, hgx]
    have hfn := I'.nil rfl
    have hE : fateE s'.fates = 0 := by rw [hfn]; rfl
    rw [hE]
    simp (disch := omega)
    have hyq : y'.qs = [] := by
      have h1 : y'.f.ps = [] := by
        rw [hyf]
        show y.f.ps.drop _ = []
        refine List.drop_eq_nil_of_le ?_
        unfold wentN; rw [if_pos hE]; exact Nat.le_refl _
      have h2 : y'.f.ps = y'.qs.map (·.1) := rfl
      rw [h2] at h1
      exact List.map_eq_nil_iff.1 h1
    have hnd' := I'.st.nodup
    rw [hF] at hnd'
    have hnbl := og.lt (b := nb) rfl
    refine hX (i + 1, _) _ _ (by simp) ⟨hil, I'.up u4 (by show s'.steps + 1 ≤ _; omega) (by show s'.fates.tail.length ≤ _; rw [hfn]; exact Nat.zero_le _) (fun _ => by show s'.fates.tail = []; rw [hfn]; rfl), ?_, ?_, ?_, fun b hb e => ?_⟩ (by dsimp only; omega)
    · show (A ++ y' :: B).map (·.name) = _
      rw [← hnm, hF]
      simp [hyn']
    · intro t ht htn
      have ht' : t ∈ A ++ y' :: B := ht
      have old : t ∈ A ∨ t ∈ B → t.qs = [] := fun h => by
        have htF : t ∈ s'.F := by
          rw [hF]
          rcases h with h | h
          · exact List.mem_append_left _ h
          · exact List.mem_append_right _ (List.mem_cons_of_mem _ h)
        have hne : t.name ≠ L[i] := fun e => by
          rw [List.map_append, List.map_cons] at hnd'
          have h3 := List.nodup_append.1 hnd'
          rcases h with h | h
          · exact h3.2.2 t.name (List.mem_map_of_mem h) y.name List.mem_cons_self (e.trans hyn.symm)
          · have := (List.nodup_cons.1 h3.2.1).1
            exact this (by rw [hyn, ← e]; exact List.mem_map_of_mem h)
        dsimp only at htn
        rw [List.take_succ_eq_append_getElem hil] at htn
        rcases List.mem_append.1 htn with h4 | h4
        · exact hps t htF h4
        · simp at h4; exact absurd h4 hne
      rcases List.mem_append.1 ht' with h | h
      · exact old (.inl h)
      · rcases List.mem_cons.1 h with h | h
        · rw [h]; exact hyq
        · exact old (.inr h)
    · exact og.mod u4.mod (fun b hb e => hnf b hb e)
    · have := og.lt hb
      exact (u4.foot b e).elim (hnf b hb) (fun e => by omega)
  obtain rfl : i = L.length := by omega
  simp (disch := omega)
  have hall : ∀ x ∈ s'.F, x.qs = [] := fun x hx => hps x hx (by rw [List.take_length]; exact pm.mem_iff.2 (hnm ▸ List.mem_map_of_mem hx))
  have st := I'.st
  have e4 : Ext h g' := eg1.trans I'.ext
  refine Crash_c st (hk.ext e4) (fun h5 e5 hneg => ?_) (fun h5 p1 s1 L1 e5 _ pm1 _ st1 hc1 _ _ _ _ => ?_)
  · simp (disch := omega)
    refine Crash_c (st.ext e5) (hj.ext (e4.trans e5)) (fun h6 e6 hneg => ?_) (fun h6 p2 s2 L2 e6 _ pm2 _ st2 hc2 _ _ _ _ => ?_)
    · simp (disch := omega)
      refine known6_c fun h7 e7 => ?_
      simp (disch := omega)
      exact H _ (e4.trans (e5.trans (e6.trans e7)))
    · simp (disch := omega)
      refine known6_c fun h7 e7 => ?_
      simp (disch := omega)
      exact H _ (e4.trans (e5.trans (e6.trans e7)))
  simp (disch := omega)
  refine Crash_c (st.ext e5) (hj.ext (e4.trans e5)) (fun h6 e6 hneg => ?_) (fun h6 p2 s2 L2 e6 _ pm2 _ st2 hc2 _ _ _ _ => ?_)
  · simp (disch := omega)
    refine known6_c fun h7 e7 => ?_
    simp (disch := omega)
    exact H _ (e4.trans (e5.trans (e6.trans e7)))
  simp (disch := omega)
  refine Pending_c ((st.ext e5).ext e6) fun h7 e7 => ?_
  rw [pend_nil hall]
  simp (disch := omega)
  have st' := ((st.ext e5).ext e6).ext e7
  have st1' := (st1.ext e6).ext e7
  have st2' := st2.ext e7
  have k1 := crash_flen pm1 hc1
  have k2 := crash_flen pm2 hc2
  refine Same_c st1' st2' (by omega) (fun y hy => ?_) fun h8 e8 => ?_
  · obtain ⟨x, hx, hn1, j1, hf1⟩ := crash_back st pm1 hc1 hy
    obtain ⟨z, hz, hn2, j2, -, hf2⟩ := crash_file st st2 pm2 hc2 hx
    have a1 := crash_same (hall x hx) hf1
    have a2 := crash_same (hall x hx) hf2
    exact ⟨a1.2, z, hz, hn2.trans hn1.symm, a2.1.trans a1.1.symm, a2.2⟩
  simp (disch := omega)
  refine Same_c (st1'.ext e8) (st'.ext e8) (by omega) (fun y hy => ?_) fun h9 e9 => ?_
  · obtain ⟨x, hx, hn1, j1, hf1⟩ := crash_back st pm1 hc1 hy
    have a1 := crash_same (hall x hx) hf1
    exact ⟨a1.2, x, hx, hn1.symm, a1.1.symm, hall x hx⟩
  simp (disch := omega)
  refine known6_c fun h10 e10 => ?_
  simp (disch := omega)
  exact H _ (e4.trans (e5.trans (e6.trans (e7.trans (e8.trans (e9.trans e10))))))
end Go.Proofs.Ytdmcaaojapcbcaa
namespace Go.Proofs.Ytdmcaaojapcbcaa.storeFlushed
open Go.ChangeShapes Go.WideShapes Go.ChangeAt Go.RowKit Go.Joins Go.Vc

theorem own : ownKnob Try.prog.godebug = none := by kernel_rfl
theorem laidOut : laidOutB Try.prog = true := by kernel_rfl

set_option maxRecDepth 100000 in
set_option maxHeartbeats 1000000 in
theorem lifted (os : Os) (started : os.Started) (H : Type) (enc : TypeId × Value → H) :
    ReturnsInHanded {} Try.checked os 5 .any (Rows.storeFlushedSpec.pre6 enc Try.prog Try.f5 Rows.storeFlushedRow.domain false) (Rows.storeFlushedSpec.post enc Try.prog Try.f5 false true false false) := by
  refine returnsInHanded_of_change (C := Try.checked) own started (by kernel_rfl) Try.func5
    (ChangeSpec.witness6 (enc := enc) (C := Try.checked) false ⟨#[], #[.slice none 0 0, .slice none 0 0, .slice none 0 0], []⟩ 8 (by kernel_rfl) (by kernel_rfl) (by kernel_rfl) (by kernel_rfl)) ?_
  intro W base args ds gs before hval0 hW hcnd _
  have hval : ∀ (j : Nat) t v, Try.f5.params[j]? = some t → args[j]? = some v → Value.okWide Try.prog W .any base t v := hval0
  have hW' := hW
  obtain ⟨p, q, hA0, hV, rfl, hfz, hnd⟩ := hW
  have hA : DataW.TrodAll enc Try.prog W 0 (fun _ => true) true Try.f5.params.toList args.toList ds p := hA0
  rw [Try.params5] at hA hval
  obtain ⟨v0, vs0, d0, ds0, p0, q0, hargs, rfl, rfl, h0, r0⟩ := trodAll_cons hA
  obtain ⟨v1, vs1, d1, ds1, p1, q1, rfl, rfl, rfl, h1, r1⟩ := trodAll_cons r0
  obtain ⟨v2, vs2, d2, ds2, p2, q2, rfl, rfl, rfl, h2, r2⟩ := trodAll_cons r1
  obtain ⟨rfl, rfl, rfl⟩ := trodAll_nil r2
  obtain rfl : args = #[v0, v1, v2] := by cases args; simp_all
  obtain ⟨xs, hxs⟩ := open_steps (hval 0 42 v0 rfl rfl) h0
  obtain ⟨ks, hks⟩ := open_its (hval 1 23 v1 rfl rfl) h1
  obtain ⟨js, hjs⟩ := open_its (hval 2 23 v2 rfl rfl) h2
  refine ((StoreFlushed_c (h := W.heap) hxs hks hjs (K := fun v h' => v = .bool true ∧ Ext W.heap h') (fun h' e => ⟨rfl, e⟩)).out W rfl).mono fun e W' ⟨v, he, hs, hv, hx⟩ => ?_
  exact ⟨v, he, hv ▸ law_post laidOut (by kernel_rfl) rfl (tb := 4) (by kernel_rfl) (by kernel_rfl) hW' (fun hg => by rw [hg]; rfl) (below_of hs hx)⟩

theorem proved : Rows.StoreFlushedSaid :=
  OpenClaim.holds_of_wide 5 Try.f5 rfl rfl rfl rfl rfl rfl rfl ⟨rfl, rfl, rfl, rfl, rfl⟩ rfl rfl rfl rfl rfl (by kernel_rfl) Try.func5 (by kernel_rfl)
    (of_decide_eq_true (by kernel_rfl)) (by unfold Func.isWrapper; first | (rw [if_pos (by decide +kernel)]; kernel_rfl) | (rw [if_neg (by decide +kernel)]; exact ⟨rfl, rfl⟩))
    (fun os started H enc _ => lifted os started H enc)
end Go.Proofs.Ytdmcaaojapcbcaa.storeFlushed
