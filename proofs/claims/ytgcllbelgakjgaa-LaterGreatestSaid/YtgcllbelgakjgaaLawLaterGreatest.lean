/- What is proved: the law palimpsestlaw13.LaterGreatest returns true for every input, and its arguments read as they did. No conditions. -/
import Derived.Test.YtgcllbelgakjgaaRows
import Derived.Test.YtgcllbelgakjgaaLatE
set_option linter.unusedSimpArgs false
set_option linter.unusedVariables false
namespace Go.Proofs.Ytgcllbelgakjgaa
open Go.Vc
variable {K : Value → Heap → Prop} {h : Heap}

theorem best_next {R : List Rn} {x y : Rn} (hc : Vc.Can R) (hx : IsBest x R) (hy : y ∈ lessR x R) : y ∈ R ∧ y ≠ x := by
  obtain ⟨A, B, rfl⟩ := List.append_of_mem hx.1
  rw [less_mid hc] at hy
  obtain ⟨h1, h2, h3, h4⟩ := can_mid hc
  rcases List.mem_append.1 hy with hy | hy
  · exact ⟨by simp [hy], fun e => by subst e; have := h3 y hy; unfold Rn.en at this; omega⟩
  · exact ⟨by simp [hy], fun e => by subst e; have := h4 y hy; unfold Rn.en at this; omega⟩
set_option maxHeartbeats 8000000 in
theorem LaterGreatest_c {v : Value} {l : List (Int × Int)} (rv : Rws h v l) (H : ∀ h', Ext h h' → K (.bool true) h') : CallsH Try.prog 4 #[v] h K ⟨⟩ := by
  refine n4_calls ?_
  unfold n4
  obtain ⟨va, vc, rfl, hvc⟩ := rv.form
  have hfew := rv.few
  by_cases h60 : 60 < l.length
  · simp (disch := omega)
    exact works_c H
  simp (disch := omega)
  refine some_c rv (by omega) fun v1 h1 o1 e1 f1 => ?_
  have hsl := some_len l
  have r1 := own_rws o1 (by omega) (may_list some_may)
  have hpl := putR_len ((someL l).map rnOf) []
  simp at hpl
  refine New_c r1 (by omega) (fun h2 e2 hn => absurd some_may hn) (fun h2 e2 _ hn => by omega) (fun q s h2 _ a2 e2 f2 => ?_)
  have hpq : ptrV q = .pointer (some ⟨q, 0, none⟩) := rfl
  simp (disch := omega) [hpq]
  refine num_c ?_
  simp (disch := omega)
  rw [← hpq]
  refine Copy_c a2 fun p t h3 a3 e3 f3 => ?_
  have aq := a2.ext e3
  refine Size_c aq fun h4 e4 => ?_
  have aq := aq.ext e4
  have ap := a3.ext e4
  have z1 := e1.size
  have z2 := e2.size
  have z3 := e3.size
  have z4 := e4.size
  have hB := bytes_fit a2.can a2.fitL
  have fitL := a2.fitL
  have canL := a2.can
  generalize putR [] ((someL l).map rnOf) = L at *
  simp (disch := omega)
  refine (⟨_, rfl⟩ : ∃ f, f = hset (hset (Array.push h4 (.cells #[.int .i64 0, .int .i64 0] runT)) ⟨h4.size, 0, none⟩ (.int .i64 0)) ⟨h4.size, 1, none⟩ (.int .i64 1152921504606846976)).elim fun g5 eg5 => ?_
  have e5 : Ext h4 g5 := by rw [eg5]; exact (by repeat' (first | (with_reducible exact Ext.refl _) | (with_reducible assumption) | (with_reducible refine push_ext ?_) | (with_reducible refine hset_ext ?_ ?_) | (with_reducible refine Ext.trans ?_ (by assumption)) | omega | (simp; done) | (simp; omega) | (refine Ext.size ?_) | (refine Nat.le_succ_of_le (Ext.size ?_))))
  have b5 : g5[h4.size]? = some (.cells #[.int .i64 0, .int .i64 1152921504606846976] runT) := by
    rw [eg5]
    refine (obj_set (obj_set (get_pushed rfl))).trans ?_
    simp
  rw [show hset (hset (Array.push h4 (.cells #[.int .i64 0, .int .i64 0] 24)) ⟨h4.size, 0, none⟩ (.int .i64 0)) ⟨h4.size, 1, none⟩ (.int .i64 1152921504606846976) = g5 from eg5.symm]
  clear eg5
  have hfp : ∀ b, foot p t b → h2.size ≤ b := f3
  have hfq : ∀ b, foot q s b → h.size ≤ b := fun b hb => by have := f2 b hb; omega
  have hfq2 : ∀ b, foot q s b → b < h2.size := fun b hb => a2.lt hb
  have hlb := get_some_lt b5
  refine loopX2 (α := Nat × List Rn × Lq × Nat × Nat) (fun a => .int .i64 (bytesR a.2.1 : Nat)) (fun a => .int .i64 a.1) (fun a g => a.1 + a.2.1.length = L.length ∧ LqAt g q a.2.2.1 a.2.1 ∧ LqAt g p t L ∧ Ext h g ∧ g5.size ≤ g.size ∧ (∀ b, foot q a.2.2.1 b → foot q s b ∨ g5.size ≤ b) ∧ (∀ b, foot q a.2.2.1 b → ¬ foot p t b) ∧ g[h4.size]? = some (.cells #[.int .i64 (a.2.2.2.1 : Nat), .int .i64 (a.2.2.2.2 : Nat)] runT) ∧ (∀ y ∈ a.2.1, y ∈ L ∧ (y.len < a.2.2.2.2 ∨ (y.len = a.2.2.2.2 ∧ a.2.2.2.1 < y.at_)))) (fun a => L.length - a.1) (0, L, s, 0, 1152921504606846976) ⟨rfl, rfl⟩ ?_ ?_
  · refine ⟨by simp, aq.ext e5, ap.ext e5, ((e1.trans e2).trans (e3.trans e4)).trans e5, Nat.le_refl _, fun b hb => .inl hb, fun b hb hb2 => by have := hfp b hb2; have := hfq2 b hb; omega, b5, fun y hy => ⟨hy, .inl ?_⟩⟩
    have := fitL y hy
    unfold Rn.en at this
    dsimp only; omega
  · rintro ⟨i, R, s', la, ll⟩ g ⟨hi, a, ap, eg, zg, hft, hdis, bl, hR⟩ X hX
    dsimp only at hi a ap eg zg hft hdis bl hR hX ⊢
    by_cases hin : i < L.length
    · simp (disch := omega)
      refine Greatest_c a (fun h6 e6 hn => by rw [hn] at hi; simp at hi; omega) (fun x s6 h6 hx u6 => ?_)
      have hRx := hR x hx.1
      have hfx := fitL x hRx.1
      have hpx := canL.pos x hRx.1
      have hnl : ¬ foot q s' h4.size := fun hf => by
        rcases hft _ hf with h9 | h9
        · have := hfq2 _ h9; omega
        · omega
      have hlg := get_some_lt bl
      have bl6 := (u6.mod.block _ hlg hnl).trans bl
      have ap6 := ap.mod u6.mod (fun b hb hq => hdis b hq hb)
      have eg6 : Ext h h6 := u6.mod.ext_from eg (fun b hb hq => by
        rcases hft b hq with h9 | h9
        · have := hfq b h9; omega
        · omega)
      have zg6 := u6.mod.size
      unfold Rn.en at hfx
      unfold rwA rnP
      simp (disch := omega)
      refine (⟨_, rfl⟩ : ∃ f, f = hset (hset (Array.push h6 (.cells #[.int .i64 0, .int .i64 0] runT)) ⟨h6.size, 0, none⟩ (.int .i64 (x.at_ : Nat))) ⟨h6.size, 1, none⟩ (.int .i64 (x.len : Nat))).elim fun g7 eg7 => ?_
      have e7 : Ext h6 g7 := by rw [eg7]; exact (by repeat' (first | (with_reducible exact Ext.refl _) | (with_reducible assumption) | (with_reducible refine push_ext ?_) | (with_reducible refine hset_ext ?_ ?_) | (with_reducible refine Ext.trans ?_ (by assumption)) | omega | (simp; done) | (simp; omega) | (refine Ext.size ?_) | (refine Nat.le_succ_of_le (Ext.size ?_))))
      have b7 : g7[h6.size]? = some (.cells #[.int .i64 (x.at_ : Nat), .int .i64 (x.len : Nat)] runT) := by
        rw [eg7]
        refine (obj_set (obj_set (get_pushed rfl))).trans ?_
        simp
      rw [show hset (hset (Array.push h6 (.cells #[.int .i64 0, .int .i64 0] 24)) ⟨h6.size, 0, none⟩ (.int .i64 (x.at_ : Nat))) ⟨h6.size, 1, none⟩ (.int .i64 (x.len : Nat)) = g7 from eg7.symm]
      clear eg7
      have hx2 : i64 (rnP x).1 ∧ i64 (rnP x).2 := by unfold rnP i64; dsimp only; omega
      have hmx : mayR (rnP x) := by unfold rnP mayR; dsimp only; omega
      have hofx : rnOf (rnP x) = x := by unfold rnOf rnP; simp
      have ap7 := ap6.ext e7
      refine Over_c (x := rnP x) ap7 hx2 (fun h8 e8 hn => absurd hmx hn) (fun h8 e8 _ => ?_)
      rw [hofx, over_own canL hRx.1]
      have b8 := (e8.block _ (get_some_lt b7)).trans b7
      have k0 := cellOf (i := 0) b8 rfl
      have k1 := cellOf (i := 1) b8 rfl
      simp (disch := omega) [k0, k1, Hp_max2, Hp_min2]
      obtain ⟨fr, q1, hfr1, hfr2⟩ : ∃ fr : Nat, (if (1 : Int) < (x.at_ : Int) then (x.at_ : Int) - 1 else 0) = (fr : Int) ∧ fr ≤ x.at_ ∧ x.at_ ≤ fr + 1 := by
        by_cases hc : (1 : Int) < (x.at_ : Int)
        · exact ⟨x.at_ - 1, by rw [if_pos hc]; omega, by omega, by omega⟩
        · exact ⟨0, by rw [if_neg hc]; rfl, by omega, by omega⟩
      obtain ⟨to, q2, hto1, hto2, hto3⟩ : ∃ to : Nat, (if (72057594037927936 : Int) < (x.at_ : Int) + (x.len : Int) + 1 then 72057594037927936 else (x.at_ : Int) + (x.len : Int) + 1) = (to : Int) ∧ x.at_ + x.len ≤ to ∧ to ≤ x.at_ + x.len + 1 ∧ to ≤ 72057594037927936 := by
        by_cases hc : (72057594037927936 : Int) < (x.at_ : Int) + (x.len : Int) + 1
        · exact ⟨x.at_ + x.len, by rw [if_pos hc]; omega, by omega, by omega, by omega⟩
        · exact ⟨x.at_ + x.len + 1, by rw [if_neg hc]; omega, by omega, by omega, by omega⟩
      simp only [q1, q2]
      have hy2 : i64 ((fr : Int), (to : Int) - (fr : Int)).1 ∧ i64 ((fr : Int), (to : Int) - (fr : Int)).2 := by unfold i64; dsimp only; omega
      have hmy : mayR ((fr : Int), (to : Int) - (fr : Int)) := by unfold mayR; dsimp only; omega
      have hofy : rnOf ((fr : Int), (to : Int) - (fr : Int)) = ⟨fr, to - fr⟩ := by unfold rnOf; dsimp only; congr 1; omega
      refine Over_c (x := ((fr : Int), (to : Int) - (fr : Int))) (ap7.ext e8) hy2 (fun h9 e9 hn => absurd hmy hn) (fun h9 e9 _ => ?_)
      rw [hofy, over_around (x := x) canL hRx.1 hfr1 hfr2 (by unfold Rn.en; dsimp only; omega) (by unfold Rn.en; dsimp only; omega)]
      simp (disch := omega)
      refine num_c ?_
      refine num_c ?_
      simp (disch := omega)
      refine num_c ?_
      have b9 := (e9.block _ (get_some_lt b8)).trans b8
      have e79 := e7.trans (e8.trans e9)
      have bl9 := (e79.block _ (get_some_lt bl6)).trans bl6
      have m0 := cellOf (i := 0) b9 rfl
      have m1 := cellOf (i := 1) b9 rfl
      have l0 := cellOf (i := 0) bl9 rfl
      have l1 := cellOf (i := 1) bl9 rfl
      have lf0 : hfrozen h9 ⟨h4.size, 0, none⟩ = false := frzOf bl9
      have lf1 : hfrozen h9 ⟨h4.size, 1, none⟩ = false := frzOf bl9
      have hlb := lessR_bytes (x := x) (l := R)
      have hov := over_own a.can hx.1
      have hbR := bytes_fit a.can a.fitL
      have hlen : (lessR x R).length + 1 = R.length := by
        obtain ⟨A, B, rfl⟩ := List.append_of_mem hx.1
        rw [less_mid a.can]; simp; omega
      have fin : X (.int .i64 ((bytesR R : Int) - (x.len : Int))) (.int .i64 ((i : Int) + 1)) (hset (hset h9 ⟨h4.size, 0, none⟩ (.int .i64 (x.at_ : Nat))) ⟨h4.size, 1, none⟩ (.int .i64 (x.len : Nat))) := by
        have m9 := Mod.setIn (v := .int .i64 (x.len : Nat)) (a := ⟨h4.size, 1, none⟩) (Mod.set h9 ⟨h4.size, 0, none⟩ (.int .i64 (x.at_ : Nat))) (.inl rfl)
        have hnl6 : ¬ foot q s6 h4.size := fun hf => (u6.foot _ hf).elim hnl (fun h9 => by omega)
        have hnp : ¬ foot p t h4.size := fun hf => by have := ap.lt hf; have := a3.lt hf; omega
        refine hX (i + 1, lessR x R, s6, x.at_, x.len) _ _ _ (by rw [show ((bytesR R : Int) - (x.len : Int)) = ((bytesR (lessR x R) : Nat) : Int) by omega]) (by simp) ⟨by dsimp only; omega, (u6.st.ext e79).mod m9 (fun b hb e => by have e' : b = h4.size := e; exact hnl6 (e' ▸ hb)), (ap6.ext e79).mod m9 (fun b hb e => by have e' : b = h4.size := e; exact hnp (e' ▸ hb)), m9.ext_from (eg6.trans e79) (fun b hb e => by have e' : b = h4.size := e; have := eg.size; have := e1.size; omega), Nat.le_trans zg (Nat.le_trans zg6 (Nat.le_trans e79.size m9.size)), fun b hb => ?_, fun b hb hp => ?_, ?_, fun y hy => ?_⟩ (by dsimp only; omega)
        · rcases u6.foot b hb with h9 | h9
          · exact hft b h9
          · exact .inr (by omega)
        · rcases u6.foot b hb with h9 | h9
          · exact hdis b h9 hp
          · have := ap.lt hp; omega
        · dsimp only
          refine (obj_set (obj_set bl9)).trans ?_
          simp
        · dsimp only at hy ⊢
          obtain ⟨hyR, hne⟩ := best_next a.can hx hy
          refine ⟨(hR y hyR).1, ?_⟩
          rcases hx.2 y hyR with h9 | ⟨h9, h10⟩
          · exact .inl h9
          · refine .inr ⟨h9, ?_⟩
            rcases Nat.lt_or_ge x.at_ y.at_ with h11 | h11
            · exact h11
            · exact absurd (can_inj a.can y hyR x hx.1 (by omega)) hne
      rcases hRx.2 with c1 | ⟨c1, c2⟩
      · simp (disch := omega) [m0, m1, l0, l1, lf0, lf1]
        exact fin
      · simp (disch := omega) [m0, m1, l0, l1, lf0, lf1, c1]
        rw [c1] at fin
        exact fin
    · have hR0 : R = [] := List.length_eq_zero_iff.1 (by omega)
      subst hR0
      simp (disch := omega)
      refine Greatest_c a (fun h6 e6 _ => ?_) (fun x s6 h6 hx u6 => absurd hx.1 (by simp))
      unfold rwA
      simp (disch := omega)
      refine num_c ?_
      simp (disch := omega) [bytesR]
      refine works_c fun h9 e9 => ?_
      simp (disch := omega)
      have e10 : Ext h6 (hset (hset (Array.push h6 (.cells #[.int .i64 0, .int .i64 0] runT)) ⟨h6.size, 0, none⟩ (.int .i64 0)) ⟨h6.size, 1, none⟩ (.int .i64 0)) := (by repeat' (first | (with_reducible exact Ext.refl _) | (with_reducible assumption) | (with_reducible refine push_ext ?_) | (with_reducible refine hset_ext ?_ ?_) | (with_reducible refine Ext.trans ?_ (by assumption)) | omega | (simp; done) | (simp; omega) | (refine Ext.size ?_) | (refine Nat.le_succ_of_le (Ext.size ?_))))
      exact H _ ((eg.trans e6).trans (e10.trans e9))
end Go.Proofs.Ytgcllbelgakjgaa
namespace Go.Proofs.Ytgcllbelgakjgaa.laterGreatest
open Go.ChangeShapes Go.WideShapes Go.ChangeAt Go.RowKit Go.Joins Go.Vc

theorem own : ownKnob Try.prog.godebug = none := by kernel_rfl
theorem laidOut : laidOutB Try.prog = true := by kernel_rfl

set_option maxRecDepth 100000 in
set_option maxHeartbeats 1000000 in
theorem lifted (os : Os) (started : os.Started) (H : Type) (enc : TypeId × Value → H) :
    ReturnsInHanded {} Try.checked os 4 .any (Rows.laterGreatestSpec.pre6 enc Try.prog Try.f4 Rows.laterGreatestRow.domain false) (Rows.laterGreatestSpec.post enc Try.prog Try.f4 false true false false) := by
  refine returnsInHanded_of_change (C := Try.checked) own started (by kernel_rfl) Try.func4
    (ChangeSpec.witness6 (enc := enc) (C := Try.checked) false ⟨#[], #[.slice none 0 0], []⟩ 8 (by kernel_rfl) (by kernel_rfl) (by kernel_rfl) (by kernel_rfl)) ?_
  intro W base args ds gs before hval0 hW hcnd _
  have hval : ∀ (j : Nat) t v, Try.f4.params[j]? = some t → args[j]? = some v → Value.okWide Try.prog W .any base t v := hval0
  have hW' := hW
  obtain ⟨p, q, hA0, hV, rfl, hfz, hnd⟩ := hW
  have hA : DataW.TrodAll enc Try.prog W 0 (fun _ => true) true Try.f4.params.toList args.toList ds p := hA0
  rw [Try.params4] at hA hval
  obtain ⟨v0, vs0, d0, ds0, p0, q0, hargs, rfl, rfl, h0, r0⟩ := trodAll_cons hA
  obtain ⟨rfl, rfl, rfl⟩ := trodAll_nil r0
  obtain rfl : args = #[v0] := by cases args; simp_all
  obtain ⟨l, hl⟩ := open_runs (hval 0 22 v0 rfl rfl) h0
  refine ((LaterGreatest_c (h := W.heap) hl (K := fun v h' => v = .bool true ∧ Ext W.heap h') (fun h' e => ⟨rfl, e⟩)).out W rfl).mono fun e W' ⟨v, he, hs, hv, hx⟩ => ?_
  exact ⟨v, he, hv ▸ law_post laidOut (by kernel_rfl) rfl (tb := 4) (by kernel_rfl) (by kernel_rfl) hW' (fun hg => by rw [hg]; rfl) (below_of hs hx)⟩

theorem proved : Rows.LaterGreatestSaid :=
  OpenClaim.holds_of_wide 4 Try.f4 rfl rfl rfl rfl rfl rfl rfl ⟨rfl, rfl, rfl, rfl, rfl⟩ rfl rfl rfl rfl rfl (by kernel_rfl) Try.func4 (by kernel_rfl)
    (of_decide_eq_true (by kernel_rfl)) (by unfold Func.isWrapper; first | (rw [if_pos (by decide +kernel)]; kernel_rfl) | (rw [if_neg (by decide +kernel)]; exact ⟨rfl, rfl⟩))
    (fun os started H enc _ => lifted os started H enc)
end Go.Proofs.Ytgcllbelgakjgaa.laterGreatest
