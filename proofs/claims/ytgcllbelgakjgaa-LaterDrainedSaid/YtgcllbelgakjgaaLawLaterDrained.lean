/- What is proved: the law palimpsestlaw13.LaterDrained returns true for every input, and its arguments read as they did. No conditions. -/
import Derived.Test.YtgcllbelgakjgaaRows
import Derived.Test.YtgcllbelgakjgaaLatE
set_option linter.unusedSimpArgs false
set_option linter.unusedVariables false
namespace Go.Proofs.Ytgcllbelgakjgaa
open Go.Vc
variable {K : Value → Heap → Prop} {h : Heap}

section
open Go Go.ChangeShapes Go.WideShapes Go.ChangeAt Go.RowKit Go.Deep
set_option maxRecDepth 100000 in
theorem open_run {H : Type} {enc : TypeId × Value → H} {w : World} {base : Nat} {sp : Nat → Bool} {held : Bool} {v : Value} {r : Reach} {b0 : Nat} {ps : List MemPlace} {d : DataW H} (hval : Value.okWide Try.prog w r b0 24 v) (hd : DataW.Trod enc Try.prog w base sp held 24 v d ps) :
    ∃ z : Int × Int, v = rwA z ∧ i64 z.1 ∧ i64 z.2 := by
  obtain ⟨cs, rfl, hl, hL⟩ := Laid.topFlds (L := [(2, 0, 1), (2, 1, 1)]) (n := 2) (by kernel_rfl) (by kernel_rfl) hval hd
  obtain ⟨c0, c1, rfl⟩ := len2 hl
  obtain ⟨n0, hn0, r0, r0'⟩ := (hL 0 _ _ _ rfl).int (k := .i64) (by kernel_rfl)
  obtain rfl : c0 = .int .i64 n0 := by simpa using hn0
  obtain ⟨n1, hn1, r1, r1'⟩ := (hL 1 _ _ _ rfl).int (k := .i64) (by kernel_rfl)
  obtain rfl : c1 = .int .i64 n1 := by simpa using hn1
  exact ⟨(n0, n1), rfl, i64_of ⟨r0, r0'⟩, i64_of ⟨r1, r1'⟩⟩
end
theorem cell_of {b : Nat} {x : Value} {t : Go.TypeId} (hb : h[b]? = some (.cells #[x] t)) : hcell h ⟨b, 0, none⟩ = some x := cellOf hb rfl
set_option maxHeartbeats 16000000 in
theorem LaterDrained_c {v : Value} {l : List (Int × Int)} {most : Int} {z : Int × Int} (rv : Rws h v l) (hms : i64 most) (hz : i64 z.1 ∧ i64 z.2) (H : ∀ h', Ext h h' → K (.bool true) h') : CallsH Try.prog 5 #[v, .int .i64 most, rwA z] h K ⟨⟩ := by
  refine n5_calls ?_
  unfold n5 rwA
  obtain ⟨va, vc, rfl, hvc⟩ := rv.form
  have hfew := rv.few
  obtain ⟨hms1, hms2⟩ := hms
  simp (disch := omega)
  refine (⟨_, rfl⟩ : ∃ f, f = (h.push (.cells #[.int .i64 z.1, .int .i64 z.2] runT)).push (.cells #[.bool false] 4)).elim fun h0 eh0 => ?_
  have e0 : Ext h h0 := by rw [eh0]; exact (by repeat' (first | (with_reducible exact Ext.refl _) | (with_reducible assumption) | (with_reducible refine push_ext ?_) | (with_reducible refine hset_ext ?_ ?_) | (with_reducible refine Ext.trans ?_ (by assumption)) | omega | (simp; done) | (simp; omega) | (refine Ext.size ?_) | (refine Nat.le_succ_of_le (Ext.size ?_))))
  have r0 : h0[h.size + 1]? = some (.cells #[.bool false] 4) := by rw [eh0]; exact get_pushed (by simp)
  have x0 : h0[h.size]? = some (.cells #[.int .i64 z.1, .int .i64 z.2] runT) := by rw [eh0, get_push (by simp)]; exact get_pushed rfl
  have z0' : h0.size = h.size + 2 := by rw [eh0]; simp
  rw [show (h.push (.cells #[.int .i64 z.1, .int .i64 z.2] 24)).push (.cells #[.bool false] 4) = h0 from eh0.symm]
  clear eh0
  have z0 := e0.size
  have hrl := get_some_lt r0
  have out : ∀ g, Ext h0 g → K (.bool true) (hset g ⟨h.size + 1, 0, none⟩ (.bool true)) := fun g e => H _ (hset_ext (e0.trans e) (by simp))
  by_cases h60 : 60 < l.length
  · simp (disch := omega)
    refine works_c fun h1 e1 => ?_
    have rz := (e1.block (h.size + 1) hrl).trans r0
    have cz := cellOf (i := 0) rz rfl
    have fz := frzOf (i := 0) rz
    simp (disch := omega) [cz, fz]
    refine RetD_nil ?_
    simp (disch := omega) [cz]
    exact out _ e1
  by_cases hm1 : most < 1
  · simp (disch := omega)
    refine works_c fun h1 e1 => ?_
    have rz := (e1.block (h.size + 1) hrl).trans r0
    have cz := cellOf (i := 0) rz rfl
    have fz := frzOf (i := 0) rz
    simp (disch := omega) [cz, fz]
    refine RetD_nil ?_
    simp (disch := omega) [cz]
    exact out _ e1
  simp (disch := omega)
  refine (⟨_, rfl⟩ : ∃ f, f = h0.push (.cells #[.slice none 0 0] rsT)).elim fun h1 eh1 => ?_
  have e1 : Ext h0 h1 := by rw [eh1]; exact (by repeat' (first | (with_reducible exact Ext.refl _) | (with_reducible assumption) | (with_reducible refine push_ext ?_) | (with_reducible refine hset_ext ?_ ?_) | (with_reducible refine Ext.trans ?_ (by assumption)) | omega | (simp; done) | (simp; omega) | (refine Ext.size ?_) | (refine Nat.le_succ_of_le (Ext.size ?_))))
  have s1 : h1[h0.size]? = some (.cells #[.slice none 0 0] rsT) := by rw [eh1]; exact get_pushed rfl
  rw [show h0.push (.cells #[.slice none 0 0] 22) = h1 from eh1.symm]
  clear eh1
  refine loopX1 (α := Nat × Value) (fun a => .int .i64 a.1) (fun a g => a.1 ≤ l.length ∧ Mod (· = h0.size) h1 g ∧ g[h0.size]? = some (.cells #[a.2] rsT) ∧ OwnT runT 2 g a.2 ((someL (l.take a.1)).flatMap rwV) ∧ ∀ b, blkV a.2 = some b → h1.size ≤ b) (fun a => l.length - a.1) (0, .slice none 0 0) rfl ⟨by simp, .refl _ _, s1, by simpa [someL] using OwnT.nil, (fun b hb => by cases hb)⟩ ?_
  rintro ⟨i, w⟩ g ⟨hi, mg, sg, ow, fw⟩ X hX
  dsimp only at hi mg sg ow fw hX ⊢
  have eg : Ext h0 g := mg.ext_from e1 (fun b hb e => by have e' : b = h0.size := e; omega)
  have hls1 := get_some_lt s1
  by_cases hin : i < l.length
  · obtain ⟨ad, c', hv', -, c0, c1⟩ := (rv.ext (e0.trans eg)).cell hin
    obtain ⟨rfl, -⟩ : va = some ad ∧ vc = c' := by cases hv'; exact ⟨rfl, rfl⟩
    have htk := some_snoc hin
    have hok := rv.ok _ (List.getElem_mem hin)
    have hlw := some_len (l.take i)
    simp at hlw
    simp (disch := omega)
    refine JoinN.mk ?_
    refine JoinN.mk ?_
    simp (disch := omega) [c0, c1]
    have hok' := hok
    generalize l[i] = x at *
    have go : okS x = false → ∀ h2, Ext g h2 → X (.int .i64 ((i : Int) + 1)) h2 := fun h0 h2 e2 => by
      rw [h0] at htk
      simp at htk
      exact hX (i + 1, w) _ _ (by simp) ⟨hin, Mod.extIn mg e2, (e2.block _ (get_some_lt sg)).trans sg, by dsimp only; rw [htk]; exact ow.ext e2, fw⟩ (by dsimp only; omega)
    unfold okS at go htk
    obtain ⟨⟨x0, x1⟩, x2, x3⟩ := hok
    by_cases hm : mayR x
    · refine refMayT_c (x := x) hok' hm fun h2 e2 => ?_
      have d0 := hcell_ext e2 c0
      have d1 := hcell_ext e2 c1
      by_cases hs : x.2 < 1000000
      · rw [decide_eq_true hm, decide_eq_true hs] at htk
        simp at htk
        have sg2 := (e2.block _ (get_some_lt sg)).trans sg
        have k2 := cell_of sg2
        obtain ⟨wa, wn, wc, rfl, -, -, -⟩ := ow.form (by omega)
        simp (disch := omega) [d0, d1, k2]
        have hbs : Ext h2 (h2.push (.cells (List.toArray [.int .i64 x.1, .int .i64 x.2]) runT)) := (by repeat' (first | (with_reducible exact Ext.refl _) | (with_reducible assumption) | (with_reducible refine push_ext ?_) | (with_reducible refine hset_ext ?_ ?_) | (with_reducible refine Ext.trans ?_ (by assumption)) | omega | (simp; done) | (simp; omega) | (refine Ext.size ?_) | (refine Nat.le_succ_of_le (Ext.size ?_))))
        have hne2 : h0.size ≠ h2.size := by have := get_some_lt sg2; omega
        refine ⟨by simp [hne2], ?_⟩
        refine Hp_appendT (e := runT) (s := 2) (by_ := 16) (n := (someL (l.take i)).length) (k := 1) (news := [.int .i64 x.1, .int .i64 x.2]) (by kernel_rfl) (by kernel_rfl) (ow.ext (e2.trans hbs)) (rwV_len _) (by omega) (Src_new (vs := [.int .i64 x.1, .int .i64 x.2]) rfl) (by simp [one]) (by omega) (by omega) fun v4 h4 o4 m4 f4 _ => ?_
        have hnw : ¬ blkV (.slice wa wn wc) = some h0.size := fun e => by have := fw _ e; omega
        have sg3 := (hbs.block _ (get_some_lt sg2)).trans sg2
        have sg4 := (m4.block _ (get_some_lt sg3) hnw).trans sg3
        have k4 := cell_of sg4
        have kf : hfrozen h4 ⟨h0.size, 0, none⟩ = false := frzOf sg4
        obtain ⟨ua, un, uc, rfl, -, -, -⟩ := o4.form (by omega)
        have z1 : h1.size ≤ (h2.push (.cells (List.toArray [.int .i64 x.1, .int .i64 x.2]) runT)).size := Nat.le_trans mg.size (Nat.le_trans e2.size hbs.size)
        have f4' : ∀ b, blkV (.slice ua un uc) = some b → h1.size ≤ b := fun b hb => (f4 b hb).elim (fw b) (fun e => Nat.le_trans z1 e)
        simp (disch := omega) [k4, kf]
        have m5 := Mod.set h4 ⟨h0.size, 0, none⟩ (.slice ua un uc)
        refine hX (i + 1, .slice ua un uc) _ _ (by simp) ⟨hin, ?_, (obj_set sg4).trans (by simp), ?_, f4'⟩ (by dsimp only; omega)
        · refine ((Mod.extIn (Mod.extIn mg e2) hbs).trans m4 fun b hb e => ?_).trans m5 fun b _ e => e
          have := fw b e; omega
        · dsimp only
          rw [htk, List.flatMap_append]
          exact o4.mod m5 (fun b hb e => by have := f4' b hb; have e' : b = h0.size := e; omega)
      · simp (disch := omega) [d0, d1]
        exact go (by rw [decide_eq_false hs]; simp) _ e2
    · refine refMayF_c (x := x) hok' hm fun h2 e2 => ?_
      simp (disch := omega)
      exact go (by rw [decide_eq_false hm]; simp) _ e2
  · obtain rfl : i = l.length := by omega
    rw [List.take_length] at ow
    have hsl := some_len l
    have rw_ := own_rws ow (by omega) (may_list some_may)
    have hM := rns_of (l := someL l) some_may
    have hks := cell_of sg
    have hmay : ∀ x ∈ someL l, mayR x := some_may
    have hpl := putR_len ((someL l).map rnOf) []
    simp at hpl
    have hMl : ((someL l).map rnOf).length = (someL l).length := by simp
    generalize someL l = S at *
    obtain ⟨wa, wc, rfl, hwc⟩ := rw_.form
    simp (disch := omega) [hks]
    have zg1 := mg.size
    refine New_c rw_ (by omega) (fun h2 e2 hn => absurd hmay hn) (fun h2 e2 _ hn => by omega) (fun q s h2 _ a2 e2 f2 => ?_)
    simp (disch := omega)
    refine New_c (v := .slice none 0 0) (l := []) Rws.nil (by simp) (fun h3 e3 hn => absurd (fun x hx => by cases hx) hn) (fun h3 e3 _ hn => by simp [putR] at hn) (fun p t h3 _ a3 e3 f3 => ?_)
    have hpq : ptrV q = .pointer (some ⟨q, 0, none⟩) := rfl
    have hpp : ptrV p = .pointer (some ⟨p, 0, none⟩) := rfl
    have a3 : LqAt h3 p t [] := a3
    simp (disch := omega) [hpq, hpp]
    refine num_c ?_
    simp (disch := omega)
    refine num_c ?_
    have z2 := e2.size
    have z3 := e3.size
    have hlg := get_some_lt sg
    have s3 := (e3.block _ (by omega)).trans ((e2.block _ hlg).trans sg)
    have k3 := cell_of s3
    simp (disch := omega) [k3]
    refine (⟨_, rfl⟩ : ∃ f, f = hset (h3.push (.cells #[.int .i64 0] 2)) ⟨h3.size, 0, none⟩ (.int .i64 0)).elim fun h4 eh4 => ?_
    have e4 : Ext h3 h4 := by rw [eh4]; exact (by repeat' (first | (with_reducible exact Ext.refl _) | (with_reducible assumption) | (with_reducible refine push_ext ?_) | (with_reducible refine hset_ext ?_ ?_) | (with_reducible refine Ext.trans ?_ (by assumption)) | omega | (simp; done) | (simp; omega) | (refine Ext.size ?_) | (refine Nat.le_succ_of_le (Ext.size ?_))))
    have t4 : h4[h3.size]? = some (.cells #[.int .i64 0] 2) := by rw [eh4]; exact (obj_set (get_pushed rfl)).trans (by simp)
    rw [show hset (h3.push (.cells #[.int .i64 0] 2)) ⟨h3.size, 0, none⟩ (.int .i64 0) = h4 from eh4.symm]
    clear eh4
    have z4 := e4.size
    have hlt4 := get_some_lt t4
    obtain ⟨hM1, fM, pM⟩ := hM
    have rM : Rns g (.slice wa S.length wc) (S.map rnOf) := by
      show Rws g _ ((S.map rnOf).map rnP)
      rw [hM1]; exact rw_
    have hL := a2.fitL
    have cL := a2.can
    have vL : ∀ p, Cov (putR [] (S.map rnOf)) p ↔ Cov (S.map rnOf) p := fun p => by
      have := (putR_spec (M := S.map rnOf) (L := []) trivial pM (fun x hx => by cases hx) fM).2.1 p
      rw [this]; exact ⟨fun e => e.resolve_left Cov.nil, .inr⟩
    have lenL := a2.len
    generalize putR [] (S.map rnOf) = L at *
    have hMS : (S.map rnOf).length = S.length := by simp
    clear hM1
    generalize S.map rnOf = M at *
    have hn60 : S.length ≤ 60 := by omega
    generalize S.length = n at *
    have hq2 : ∀ b, foot q s b → g.size ≤ b ∧ b < h2.size := fun b hb => ⟨f2 b hb, a2.lt hb⟩
    have hp2 : ∀ b, foot p t b → h2.size ≤ b ∧ b < h3.size := fun b hb => ⟨f3 b hb, a3.lt hb⟩
    have wlt : ∀ b, blkV (.slice wa n wc) = some b → M ≠ [] → b < g.size := fun b hb hne => Rws.lt rM (by simpa using hne) hb
    refine loopX1 (α := Nat × Lq × List Rn) (fun a => .int .i64 ((n : Int) - 1 - (a.1 : Int))) (fun a g' => a.1 ≤ n ∧ LqAt g' p a.2.1 a.2.2 ∧ (∀ b, foot p a.2.1 b → foot p t b ∨ h4.size ≤ b) ∧ Mod (fun b => foot p t b ∨ b = h3.size) h4 g' ∧ g'[h3.size]? = some (.cells #[.int .i64 (bytesR a.2.2 : Nat)] 2) ∧ (∀ p, Cov a.2.2 p ↔ Cov (M.drop (n - a.1)) p) ∧ a.2.2.length ≤ 2 * a.1) (fun a => n - a.1) (0, t, []) (by simp) ⟨by simp, a3.ext e4, fun b hb => .inl hb, .refl _ _, t4, fun p => by rw [Nat.sub_zero, List.drop_eq_nil_of_le (by omega)], by simp⟩ ?_
    rintro ⟨j, t', P⟩ g5 ⟨hj, ap, fp, m5, t5, vP, lP⟩ Y hY
    dsimp only at hj ap fp m5 t5 vP lP hY ⊢
    have nf5 : ∀ b, b < h2.size → ¬ (foot p t b ∨ b = h3.size) := fun b hb e => e.elim (fun e => by have := (hp2 b e).1; omega) (fun e => by omega)
    have s5 := (m5.block _ (by omega) (nf5 _ (by omega))).trans ((e4.block _ (by omega)).trans s3)
    have k5 := cell_of s5
    by_cases hjn : j < n
    · obtain ⟨k, hk⟩ : ∃ k, k = n - 1 - j := ⟨_, rfl⟩
      have hki : ((n : Int) - 1 - (j : Int)) = (k : Int) := by omega
      have hkM : k < M.length := by omega
      have hMne : M ≠ [] := by intro e; rw [e] at hkM; simp at hkM
      have r5 : Rns g5 (.slice wa n wc) M := (Rws.ext rM (e2.trans (e3.trans e4))).mod m5 (fun b hb => nf5 b (by have := wlt b hb hMne; omega))
      obtain ⟨ad, c', hv', -, d0, d1⟩ := Rns.cell r5 hkM
      have hxm : M[k] ∈ M := List.getElem_mem hkM
      have hdr : M.drop (n - (j + 1)) = M[k] :: M.drop (n - j) := by
        rw [show n - (j + 1) = k by omega, List.drop_eq_getElem_cons hkM, show n - j = k + 1 by omega]
      have hfx := fM _ hxm
      have hpx := pM _ hxm
      generalize hxk : M[k] = x at *
      have hv2 : wa = some ad ∧ wc = c' := by
        injection hv' with h1 h2 h3
        exact ⟨h1, h3⟩
      obtain ⟨rfl, rfl⟩ := hv2
      unfold Rn.en at hfx
      simp (disch := omega) [hki, k5, d0, d1]
      obtain ⟨y1, hy1⟩ : ∃ y : Rn, y = ⟨x.at_, (x.len + 1) / 2⟩ := ⟨_, rfl⟩
      have hya : y1.at_ = x.at_ := by rw [hy1]
      have hyl : y1.len = (x.len + 1) / 2 := by rw [hy1]
      rw [show ((x.len : Int) + 1) / 2 = ((y1.len : Nat) : Int) by omega, show ((x.at_ : Nat) : Int) = ((y1.at_ : Nat) : Int) by omega]
      refine Put1_c (x := y1) rfl ap (by omega) (by unfold Rn.en; omega) (by omega) fun s6 h6 u6 => ?_
      have nt5 : ∀ b, b < h2.size ∨ (h3.size ≤ b ∧ b < h4.size) → ¬ foot p t' b := fun b hb hf => by
        rcases fp b hf with h9 | h9
        · have := hp2 b h9; omega
        · omega
      have z5 := m5.size
      have s6' := (u6.mod.block _ (get_some_lt s5) (nt5 _ (.inl (by omega)))).trans s5
      have k6 := cell_of s6'
      have r6 := r5.mod u6.mod (fun b hb => nt5 b (.inl (by have := wlt b hb hMne; omega)))
      obtain ⟨ad6, c6, hv6, -, d0, d1⟩ := Rns.cell r6 hkM
      cases hv6
      rw [hxk] at d0 d1
      simp (disch := omega) [hki, k6, d0, d1]
      have hl6 := insR_len P y1
      refine Put1_c (x := x) rfl u6.st (by omega) (by unfold Rn.en; omega) (by omega) fun s7 h7 u7 => ?_
      have u67 := u6.trans u7
      have z67 := u67.mod.size
      have t7 := (u67.mod.block _ (get_some_lt t5) (nt5 _ (.inr ⟨Nat.le_refl _, hlt4⟩))).trans t5
      have kt := cell_of t7
      have ktf : hfrozen h7 ⟨h3.size, 0, none⟩ = false := frzOf t7
      have hb1 := bytes_fit ap.can ap.fitL
      have hb2 := bytes_fit u6.st.can u6.st.fitL
      have hb3 := bytes_fit u7.st.can u7.st.fitL
      simp (disch := omega)
      refine num_c ?_
      refine num_c ?_
      simp (disch := omega) [kt, ktf]
      rw [show ((bytesR P : Int) + ((bytesR (insR P y1) : Int) - (bytesR P : Int)) + ((bytesR (insR (insR P y1) x) : Int) - (bytesR (insR P y1) : Int))) = ((bytesR (insR (insR P y1) x) : Nat) : Int) by omega]
      have m8 := Mod.set h7 ⟨h3.size, 0, none⟩ (.int .i64 ((bytesR (insR (insR P y1) x) : Nat) : Int))
      have f7 : ∀ b, foot p s7 b → foot p t b ∨ h4.size ≤ b := fun b hb => by
        rcases u67.foot b hb with h9 | h9
        · exact fp b h9
        · exact .inr (by omega)
      refine hY (j + 1, s7, insR (insR P y1) x) _ _ (by dsimp only; congr 1; omega) ⟨by dsimp only; omega, u7.st.mod m8 (fun b hb e => ?_), f7, ?_, (obj_set t7).trans (by simp), fun p' => ?_, ?_⟩ (by dsimp only; omega)
      · have e' : b = h3.size := e
        rcases f7 b hb with h9 | h9
        · have := hp2 b h9; omega
        · omega
      · refine (m5.trans u67.mod fun b hb hf => ?_).trans m8 fun b _ e => .inr e
        rcases fp b hf with h9 | h9
        · exact .inl h9
        · omega
      · dsimp only
        rw [insR_cov, insR_cov, hdr, Cov.cons, vP p']
        unfold Rn.en
        rw [hya, hyl]
        constructor
        · rintro ((h9 | h9) | h9)
          · exact .inr h9
          · exact .inl (by omega)
          · exact .inl h9
        · rintro (h9 | h9)
          · exact .inr h9
          · exact .inl (.inl h9)
      · dsimp only
        have := insR_len (insR P y1) x
        omega
    · obtain rfl : j = n := by omega
      have hPL : P = L := can_eq ap.can cL fun p' => by rw [vP p', Nat.sub_self, List.drop_zero, vL p']
      subst hPL
      have nqp : ∀ b, foot q s b → ¬ (foot p t b ∨ b = h3.size) := fun b hb e => nf5 b (hq2 b hb).2 e
      have aq := (a2.ext (e3.trans e4)).mod m5 nqp
      simp (disch := omega)
      refine Size_c aq fun h6 e6 => ?_
      simp (disch := omega)
      rw [← hpp]
      refine Same_c (aq.ext e6) (ap.ext e6) fun h7 e7 => ?_
      rw [decide_eq_true rfl]
      have e67 := e6.trans e7
      have kt := hcell_ext e67 (cell_of t5)
      have hbP := bytes_fit ap.can ap.fitL
      simp (disch := omega) [kt]
      have aq7 := aq.ext e67
      have ap7 := ap.ext e67
      have t7 := (e67.block _ (get_some_lt t5)).trans t5
      have s7 := (e67.block _ (get_some_lt s5)).trans s5
      have z5 := m5.size
      have z67 := e67.size
      have E05 : Ext h0 h7 := (m5.ext_from (eg.trans (e2.trans (e3.trans e4))) (fun b hb e => nf5 b (by have := eg.size; omega) e)).trans e67
      have zeg := eg.size
      have x7 := (E05.block _ (by omega)).trans x0
      have nq : ∀ b, b < g.size ∨ h2.size ≤ b → ¬ foot q s b := fun b hb hf => by have := hq2 b hf; omega
      refine JoinN_in0 (fun g => Mod (foot q s) h7 g) (fun kk hkk => ?_) (fun g8 m8 => ?_)
      · have y0 := cellOf (i := 0) x7 rfl
        have y1 := cellOf (i := 1) x7 rfl
        simp (disch := omega) [y0, y1]
        by_cases hmz : mayR z
        · refine refMayT_c (x := z) hz hmz fun h8 e8 => ?_
          have y0 := hcell_ext e8 y0
          have y1 := hcell_ext e8 y1
          simp (disch := omega) [y0, y1]
          refine Over_c (x := z) (aq7.ext e8) hz (fun h9 e9 hn => absurd hmz hn) (fun h9 e9 _ => ?_)
          have y0 := hcell_ext e9 y0
          have y1 := hcell_ext e9 y1
          simp (disch := omega) [y0, y1]
          have hmz2 := rn_of hmz
          have hlr := lessR_len (x := rnOf z) cL
          refine Cut_c (x := z) (aq7.ext (e8.trans e9)) hz (fun h10 e10 hn => absurd hmz hn) (fun h10 e10 _ hn => by omega) (fun s10 h10 _ u10 => ?_)
          have x10 := (u10.mod.block _ (by have := (e8.trans e9).size; omega) (nq _ (.inl (by omega)))).trans (((e8.trans e9).block _ (get_some_lt x7)).trans x7)
          have y0 := cellOf (i := 0) x10 rfl
          have y1 := cellOf (i := 1) x10 rfl
          simp (disch := omega) [y0, y1]
          refine Over_c (x := z) u10.st hz (fun h11 e11 hn => absurd hmz hn) (fun h11 e11 _ => ?_)
          rw [over_less]
          simp (disch := omega)
          refine num_c ?_
          refine num_c ?_
          simp (disch := omega)
          refine num_c ?_
          simp (disch := omega)
          exact hkk _ (Mod.extIn ((Mod.of_ext (e8.trans e9)).trans u10.mod (fun _ _ x => x)) e11)
        · refine refMayF_c (x := z) hz hmz fun h8 e8 => ?_
          simp (disch := omega)
          exact hkk _ (.of_ext e8)
      · have np : ∀ b, foot p t' b → ¬ foot q s b := fun b hb => nq b (.inr (by
          rcases fp b hb with h9 | h9
          · exact (hp2 b h9).1
          · omega))
        have ap8 := ap7.mod m8 np
        have t8 := (m8.block _ (get_some_lt t7) (nq _ (.inr (by omega)))).trans t7
        have s8 := (m8.block _ (get_some_lt s7) (nq _ (.inl (by omega)))).trans s7
        have kt8 := cell_of t8
        simp (disch := omega) [kt8, Hp_max2]
        obtain ⟨bd, hbd, bd1, bd2⟩ : ∃ bd : Int, (if most < 1 + ((bytesR P : Nat) : Int) / 1000 then 1 + ((bytesR P : Nat) : Int) / 1000 else most) = bd ∧ 1 ≤ bd ∧ i64 bd := by
          refine ⟨_, rfl, ?_, ?_⟩
          · split <;> omega
          · unfold i64; split <;> omega
        rw [hbd]
        refine (⟨_, rfl⟩ : ∃ f, f = hset (Array.push g8 (.cells #[.int .i64 0] 2)) ⟨g8.size, 0, none⟩ (.int .i64 bd)).elim fun g9 eg9 => ?_
        have e9 : Ext g8 g9 := by rw [eg9]; exact (by repeat' (first | (with_reducible exact Ext.refl _) | (with_reducible assumption) | (with_reducible refine push_ext ?_) | (with_reducible refine hset_ext ?_ ?_) | (with_reducible refine Ext.trans ?_ (by assumption)) | omega | (simp; done) | (simp; omega) | (refine Ext.size ?_) | (refine Nat.le_succ_of_le (Ext.size ?_))))
        have b9 : g9[g8.size]? = some (.cells #[.int .i64 bd] 2) := by rw [eg9]; exact (obj_set (get_pushed rfl)).trans (by simp)
        rw [show hset (Array.push g8 (.cells #[.int .i64 0] 2)) ⟨g8.size, 0, none⟩ (.int .i64 bd) = g9 from eg9.symm]
        clear eg9
        refine Drain_c fun g10 e10 d1 d2 => ?_
        have hdv : drainV g9.size (g9.size + 1) = .func (.func 44) #[] #[ptrV g9.size, ptrV (g9.size + 1)] := rfl
        rw [hdv]
        simp (disch := omega)
        refine (⟨_, rfl⟩ : ∃ f, f = hset (Array.push g10 (.cells #[.int .i64 0] 2)) ⟨g10.size, 0, none⟩ (.int .i64 (-1))).elim fun g11 eg11 => ?_
        have e11 : Ext g10 g11 := by rw [eg11]; exact (by repeat' (first | (with_reducible exact Ext.refl _) | (with_reducible assumption) | (with_reducible refine push_ext ?_) | (with_reducible refine hset_ext ?_ ?_) | (with_reducible refine Ext.trans ?_ (by assumption)) | omega | (simp; done) | (simp; omega) | (refine Ext.size ?_) | (refine Nat.le_succ_of_le (Ext.size ?_))))
        have b11 : g11[g10.size]? = some (.cells #[.int .i64 (-1)] 2) := by rw [eg11]; exact (obj_set (get_pushed rfl)).trans (by simp)
        rw [show hset (Array.push g10 (.cells #[.int .i64 0] 2)) ⟨g10.size, 0, none⟩ (.int .i64 (-1)) = g11 from eg11.symm]
        clear eg11
        have E811 := (e9.trans e10).trans e11
        have z8 := m8.size
        have z9 := e9.size
        have z10 := e10.size
        have z11 := e11.size
        have hla := get_some_lt b11
        have hlb9 := get_some_lt b9
        have d1' := (e11.block _ (get_some_lt d1)).trans d1
        have d2' := (e11.block _ (get_some_lt d2)).trans d2
        have bd' := (e11.block _ (by omega)).trans ((e10.block _ hlb9).trans b9)
        have t11 := (E811.block _ (get_some_lt t8)).trans t8
        have s11 := (E811.block _ (get_some_lt s8)).trans s8
        have r11 := (E05.block _ hrl).trans r0
        have r11' := (E811.block _ (by have := get_some_lt r11; omega)).trans ((m8.block _ (get_some_lt r11) (nq _ (.inl (by omega)))).trans r11)
        have p11 := ap8.ext E811
        have hl7 : ∀ b, foot p t' b → b < h7.size := fun b hb => ap7.lt hb
        have ht7 := get_some_lt t7
        have nbp : ∀ b, foot p t' b ∨ b = h3.size ∨ b = g10.size → b = g10.size ∨ (h2.size ≤ b ∧ b < h7.size) := fun b hb => by
          rcases hb with h9 | rfl | rfl
          · refine .inr ⟨?_, hl7 b h9⟩
            rcases fp b h9 with h10 | h10
            · exact (hp2 b h10).1
            · omega
          · exact .inr ⟨by omega, ht7⟩
          · exact .inl rfl
        have nfx : ∀ b, b < h2.size ∨ (h7.size ≤ b ∧ b ≠ g10.size) → ¬ (foot p t' b ∨ b = h3.size ∨ b = g10.size) := fun b hb hf => by
          have := nbp b hf; omega
        have rM11 : M ≠ [] → Rns g11 (.slice wa j wc) M := fun hne => by
          have hw := fun b hb => wlt b hb hne
          have h5 := (Rws.ext rM (e2.trans (e3.trans e4))).mod m5 (fun b hb => nf5 b (by have := hw b hb; omega))
          exact ((Rws.ext h5 e67).mod m8 (fun b hb => nq b (.inl (hw b hb)))).ext E811
        refine JoinN_in1 (fun D g => D = consD g11.size (.tuple #[]) ∧ g[g11.size]? = some (.deferred (some [])) ∧ (∃ s8, LqAt g p s8 []) ∧ g[h3.size]? = some (.cells #[.int .i64 0] 2) ∧ Mod (fun b => foot p t' b ∨ b = h3.size ∨ b = g10.size) g11 g) (fun kk hkk => ?_) (fun D g12 hD => ?_)
        · refine JoinN.mk ?_
          refine RangeD (q := p) bd1 bd2 t' P (fun s8 R g => LqAt g p s8 R ∧ Mod (fun b => foot p t' b ∨ b = h3.size ∨ b = g10.size) g11 g ∧ (∀ b, foot p s8 b → foot p t' b ∨ g11.size + 2 ≤ b) ∧ g[g11.size]? = some (.deferred (some [])) ∧ g11.size + 2 ≤ g.size ∧ g[h3.size]? = some (.cells #[.int .i64 (bytesR R : Nat)] 2) ∧ (∃ at_ : Int, g[g10.size]? = some (.cells #[.int .i64 at_] 2) ∧ -1 ≤ at_ ∧ ∀ p', Cov R p' → at_ < (p' : Int)) ∧ ∀ p', Cov R p' → Cov P p') (fun _ => False) ?_ ?_ ?_ ?_ (fun g oE oR h9 => h9.elim)
          · intro g e z d
            exact ⟨p11.ext e, .of_ext e, fun b hb => .inl hb, d, by omega, (e.block _ (get_some_lt t11)).trans t11, ⟨-1, (e.block _ hla).trans b11, by omega, fun p' _ => by omega⟩, fun p' h => h⟩
          · rintro s8 R g ⟨c1, c2, c3, c4, c5, c6, c7, c8⟩
            refine ⟨(c2.block _ (get_some_lt d1') (nfx _ (.inr ⟨by omega, by have := get_some_lt d1; omega⟩))).trans d1', (c2.block _ (get_some_lt d2') (nfx _ (.inr ⟨by omega, by have := get_some_lt d2; omega⟩))).trans d2', c1, fun hf => ?_⟩
            rcases c3 _ hf with h9 | h9
            · have := hl7 _ h9; omega
            · omega
          · rintro x R g g' s8 s9 oR oB J X ⟨c1, c2, c3, c4, c5, c6, ⟨at_, c7, c7a, c7b⟩, c8⟩ a8 u9 hl9 hoR hoB hX hJ
            have hn3 : ¬ foot p t' h3.size := fun hf => (fp _ hf).elim (fun h9 => by have := hp2 _ h9; omega) (fun h9 => by omega)
            have hna : ¬ foot p t' g10.size := fun hf => by have := hl7 _ hf; omega
            have n3 : ¬ foot p s8 h3.size := fun hf => (c3 _ hf).elim hn3 (fun h9 => by omega)
            have na : ¬ foot p s8 g10.size := fun hf => (c3 _ hf).elim hna (fun h9 => by omega)
            have c9 : ∀ b, foot p s9 b → foot p t' b ∨ g11.size + 2 ≤ b := fun b hb => (u9.foot b hb).elim (c3 b) (fun h9 => .inr (by omega))
            have m9 : Mod (fun b => foot p t' b ∨ b = h3.size ∨ b = g10.size) g11 g' := c2.trans u9.mod (fun b hb hf => .inl ((c3 b hf).resolve_right (by omega)))
            have tg := (u9.mod.block _ (get_some_lt c6) n3).trans c6
            have ag := (u9.mod.block _ (get_some_lt c7) na).trans c7
            have dg := (u9.mod.block _ (get_some_lt c4) (fun hf => (c3 _ hf).elim (fun h9 => by have := hl7 _ h9; omega) (fun h9 => by omega))).trans c4
            have zu := u9.mod.size
            obtain ⟨n', hn'⟩ : ∃ n', n' = min x.len bd.toNat := ⟨_, rfl⟩
            rw [← hn'] at hX u9 ⊢
            have hcx := a8.can
            have hpx := hcx.1
            have hfx := a8.fitL x (by simp)
            have hcov : ∀ p', x.at_ ≤ p' → p' < x.at_ + x.len → Cov (x :: R) p' := fun p' h1 h2 => Cov.cons.2 (.inl ⟨h1, h2⟩)
            have hax := c7b x.at_ (hcov _ (Nat.le_refl _) (by omega))
            obtain ⟨bd3, bd4⟩ := bd2
            have hb9 := bytes_fit a8.can a8.fitL
            have hlb := lessR_bytes (x := ⟨x.at_, n'⟩) (l := x :: R)
            have hov : overR ⟨x.at_, n'⟩ (x :: R) = n' := by
              have h1 := over_le (x := ⟨x.at_, n'⟩) a8.can
              have h2 : n' ≤ overR ⟨x.at_, n'⟩ (x :: R) := by
                unfold overR meet Rn.en
                rw [List.map_cons, List.sum_cons]
                dsimp only
                omega
              dsimp only at h1
              omega
            unfold Rn.en at hfx
            have hgv : getV [rwA (rnP ⟨x.at_, n'⟩)] 0 = .agg #[.int .i64 (x.at_ : Nat), .int .i64 (n' : Nat)] := rfl
            rw [hgv]
            clear hgv
            simp (disch := omega)
            refine (⟨_, rfl⟩ : ∃ f, f = hset (hset (Array.push g' (.cells #[.int .i64 0, .int .i64 0] runT)) ⟨g'.size, 0, none⟩ (.int .i64 (x.at_ : Nat))) ⟨g'.size, 1, none⟩ (.int .i64 (n' : Nat))).elim fun gy egy => ?_
            have ey : Ext g' gy := by rw [egy]; exact (by repeat' (first | (with_reducible exact Ext.refl _) | (with_reducible assumption) | (with_reducible refine push_ext ?_) | (with_reducible refine hset_ext ?_ ?_) | (with_reducible refine Ext.trans ?_ (by assumption)) | omega | (simp; done) | (simp; omega) | (refine Ext.size ?_) | (refine Nat.le_succ_of_le (Ext.size ?_))))
            have by_ : gy[g'.size]? = some (.cells #[.int .i64 (x.at_ : Nat), .int .i64 (n' : Nat)] runT) := by
              rw [egy]
              refine (obj_set (obj_set (get_pushed rfl))).trans ?_
              simp
            rw [show hset (hset (Array.push g' (.cells #[.int .i64 0, .int .i64 0] 24)) ⟨g'.size, 0, none⟩ (.int .i64 (x.at_ : Nat))) ⟨g'.size, 1, none⟩ (.int .i64 (n' : Nat)) = gy from egy.symm]
            clear egy
            have hll := get_some_lt hl9
            refine ⟨(ey.block _ hll).trans hl9, ?_⟩
            have mB := Mod.put gy (g11.size + 1) oB
            refine (⟨_, rfl⟩ : ∃ f, f = gy.setIfInBounds (g11.size + 1) oB).elim fun gB egB => ?_
            rw [← egB] at mB ⊢
            have zy := ey.size
            have lB : gB[g11.size + 1]? = some oB := by rw [egB, get_put2 (by omega), if_pos rfl]
            clear egB
            have zB := mB.size
            have stay : ∀ b o, g'[b]? = some o → b ≠ g11.size + 1 → gB[b]? = some o := fun b o hb hne => (mB.block _ (by have := get_some_lt hb; omega) hne).trans ((ey.block _ (get_some_lt hb)).trans hb)
            have bby := (mB.block _ (get_some_lt by_) (by omega)).trans by_
            have tB := stay _ _ tg (by omega)
            have aB := stay _ _ ag (by omega)
            have dB := stay _ _ dg (by omega)
            have bdB := stay _ _ ((m9.block _ (get_some_lt bd') (nfx _ (.inr ⟨by omega, by omega⟩))).trans bd') (by omega)
            have sB := stay _ _ ((m9.block _ (get_some_lt s11) (nfx _ (.inl (by omega)))).trans s11) (by omega)
            have y0 := cellOf (i := 0) bby rfl
            have y1 := cellOf (i := 1) bby rfl
            have ka := cell_of aB
            have kfa : hfrozen gB ⟨g10.size, 0, none⟩ = false := frzOf aB
            have kt := cell_of tB
            have kft : hfrozen gB ⟨h3.size, 0, none⟩ = false := frzOf tB
            have kb := cell_of bdB
            have ks := cell_of sB
            have hyne1 : g'.size ≠ g10.size := by omega
            have hyne2 : h3.size ≠ g10.size := by omega
            have hyne3 : g'.size ≠ h3.size := by omega
            have hyne4 : h0.size ≠ g10.size := by omega
            have hyne5 : h0.size ≠ h3.size := by omega
            simp (disch := omega) [y0, y1, ka, kb, kt, kfa, kft, ks]
            have hcM : ∀ p', x.at_ ≤ p' → p' < x.at_ + x.len → Cov M p' := fun p' h1 h2 => (vL p').1 (c8 p' (hcov p' h1 h2))
            have hMne : M ≠ [] := fun e => by
              have := hcM x.at_ (Nat.le_refl _) (by omega)
              rw [e] at this; exact Cov.nil this
            rw [show ((x.at_ : Int) + (n' : Int) - 1) = ((x.at_ + n' - 1 : Nat) : Int) by omega, show ((bytesR (x :: R) : Int) - (n' : Int)) = ((bytesR (lessR ⟨x.at_, n'⟩ (x :: R)) : Nat) : Int) by omega]
            have mD1 := Mod.set gB ⟨g10.size, 0, none⟩ (.int .i64 ((x.at_ + n' - 1 : Nat) : Int))
            have mD2 := Mod.set (hset gB ⟨g10.size, 0, none⟩ (.int .i64 ((x.at_ + n' - 1 : Nat) : Int))) ⟨h3.size, 0, none⟩ (.int .i64 ((bytesR (lessR ⟨x.at_, n'⟩ (x :: R)) : Nat) : Int))
            have aD : (hset gB ⟨g10.size, 0, none⟩ (.int .i64 ((x.at_ + n' - 1 : Nat) : Int)))[g10.size]? = some (.cells #[.int .i64 ((x.at_ + n' - 1 : Nat) : Int)] 2) := (obj_set aB).trans (by simp)
            have tD1 := (mD1.block _ (get_some_lt tB) (by dsimp only; omega)).trans tB
            have tD : (hset (hset gB ⟨g10.size, 0, none⟩ (.int .i64 ((x.at_ + n' - 1 : Nat) : Int))) ⟨h3.size, 0, none⟩ (.int .i64 ((bytesR (lessR ⟨x.at_, n'⟩ (x :: R)) : Nat) : Int)))[h3.size]? = some (.cells #[.int .i64 ((bytesR (lessR ⟨x.at_, n'⟩ (x :: R)) : Nat) : Int)] 2) := (obj_set tD1).trans (by simp)
            have aD2 := (mD2.block _ (get_some_lt aD) (by dsimp only; omega)).trans aD
            generalize hset gB ⟨g10.size, 0, none⟩ (.int .i64 ((x.at_ + n' - 1 : Nat) : Int)) = gC at *
            generalize hset gC ⟨h3.size, 0, none⟩ (.int .i64 ((bytesR (lessR ⟨x.at_, n'⟩ (x :: R)) : Nat) : Int)) = gD at *
            have mD : Mod (fun b => b = g10.size ∨ b = h3.size) gB gD := (mD1.mono (fun b _ e => .inl e)).trans mD2 (fun b _ e => .inr e)
            have zD := mD.size
            have sD := (mD.block _ (get_some_lt sB) (by omega)).trans sB
            have lD := (mD.block _ (get_some_lt lB) (by omega)).trans lB
            have dD := (mD.block _ (get_some_lt dB) (by omega)).trans dB
            have MB : Mod (fun b => (foot p t' b ∨ b = h3.size ∨ b = g10.size) ∨ b = g11.size + 1) g11 gD := ((Mod.extIn (m9.mono fun b _ e => .inl e) ey).trans mB (fun b _ e => .inr e)).trans mD (fun b _ e => .inl (.inr (e.elim .inr .inl)))
            have rD : Rns gD (.slice wa j wc) M := (rM11 hMne).mod MB (fun b hb e => by
              have := wlt b hb hMne
              rcases e with e | e
              · exact nfx b (.inl (by omega)) e
              · omega)
            refine holds_c rD fM (hcM _ (Nat.le_refl _) (by omega)) (by omega) ?_
            simp (disch := omega) [cell_of sD, cell_of aD2]
            refine holds_c rD fM (hcM (x.at_ + n' - 1) (by omega) (by omega)) (by omega) ?_
            simp (disch := omega)
            refine ⟨(Array.getElem?_eq_some_iff.1 lD).2, ?_⟩
            have mE := Mod.put gD (g11.size + 1) oR
            refine (⟨_, rfl⟩ : ∃ f, f = gD.setIfInBounds (g11.size + 1) oR).elim fun gE egE => ?_
            rw [← egE] at mE ⊢
            have lE : gE[g11.size + 1]? = some oR := by rw [egE, get_put2 (get_some_lt lD), if_pos rfl]
            clear egE
            have zE := mE.size
            have nE : ∀ b, foot p s9 b → b ≠ g11.size + 1 := fun b hb e => by
              rcases c9 b hb with h9 | h9
              · have := hl7 b h9; omega
              · omega
            have n93 : ∀ b, foot p s9 b → ¬ (b = g10.size ∨ b = h3.size) := fun b hb e => by
              rcases c9 b hb with h9 | h9
              · rcases e with rfl | rfl
                · exact hna h9
                · exact hn3 h9
              · omega
            refine hX s9 gE ⟨(((u9.st.ext ey).mod mB nE).mod mD n93).mod mE nE, (MB.trans mE (fun b _ e => .inr e)).mono (fun b hb e => e.resolve_right (by omega)), c9, (mE.block _ (get_some_lt dD) (by omega)).trans dD, by omega, (mE.block _ (get_some_lt tD) (by omega)).trans tD, ⟨_, (mE.block _ (get_some_lt aD2) (by omega)).trans aD2, by omega, fun p' hp' => ?_⟩, fun p' hp' => ?_⟩ lE
            · have h9 := lessR_cov.1 hp'
              unfold Rn.en at h9
              dsimp only at h9
              rcases Cov.cons.1 h9.1 with h10 | h10
              · unfold Rn.en at h10; omega
              · have := hcx.gap h10
                unfold Rn.en at this; omega
            · exact c8 p' (lessR_cov.1 hp').1
          · rintro g g' s8 s9 oE oR ⟨c1, c2, c3, c4, c5, c6, c7, c8⟩ a8 u9 hl9 hoR
            have hn3 : ¬ foot p t' h3.size := fun hf => (fp _ hf).elim (fun h9 => by have := hp2 _ h9; omega) (fun h9 => by omega)
            have n3 : ¬ foot p s8 h3.size := fun hf => (c3 _ hf).elim hn3 (fun h9 => by omega)
            have c9 : ∀ b, foot p s9 b → foot p t' b ∨ g11.size + 2 ≤ b := fun b hb => (u9.foot b hb).elim (c3 b) (fun h9 => .inr (by omega))
            have m9 : Mod (fun b => foot p t' b ∨ b = h3.size ∨ b = g10.size) g11 g' := c2.trans u9.mod (fun b hb hf => .inl ((c3 b hf).resolve_right (by omega)))
            have tg := (u9.mod.block _ (get_some_lt c6) n3).trans c6
            have dg := (u9.mod.block _ (get_some_lt c4) (fun hf => (c3 _ hf).elim (fun h9 => by have := hl7 _ h9; omega) (fun h9 => by omega))).trans c4
            have mE := Mod.put g' (g11.size + 1) oE
            refine hkk _ _ ⟨rfl, (mE.block _ (get_some_lt dg) (by omega)).trans dg, ⟨s9, u9.st.mod mE (fun b hb e => ?_)⟩, (mE.block _ (get_some_lt tg) (by omega)).trans tg, m9.trans mE (fun b hb e => by have e' : b = g11.size + 1 := e; omega)⟩
            have e' : b = g11.size + 1 := e
            rcases c9 b hb with h9 | h9
            · have := hl7 b h9; omega
            · omega
        · obtain ⟨rfl, hD, ⟨s8, p8⟩, tz, m12⟩ := hD
          refine Size_c p8 fun h13 e13 => ?_
          have kz := hcell_ext e13 (cell_of tz)
          simp (disch := omega) [kz, bytesR]
          refine works_c fun h14 e14 => ?_
          have e134 := e13.trans e14
          have z12 := m12.size
          have rz := (e134.block _ (by omega)).trans ((m12.block _ (get_some_lt r11') (nfx _ (.inl (by omega)))).trans r11')
          have cz := cellOf (i := 0) rz rfl
          have fz := frzOf (i := 0) rz
          have dz := (e134.block _ (get_some_lt hD)).trans hD
          simp (disch := omega) [cz, fz]
          have dz2 : (hset h14 ⟨h.size + 1, 0, none⟩ (.bool true))[g11.size]? = some (.deferred (some [])) := (get_hset' (by omega)).trans dz
          refine RetD_one' dz2 ?_
          have m9 := Mod.put (hset h14 ⟨h.size + 1, 0, none⟩ (.bool true)) g11.size (.deferred none)
          have rz9 := (m9.block (h.size + 1) (by rw [hset_size]; exact get_some_lt rz) (by omega)).trans (obj_set (i := 0) (v := .bool true) rz)
          have cz9 := cellOf (i := 0) rz9 rfl
          simp (disch := omega) [cz9]
          have E8 : Ext h0 g8 := m8.ext_from E05 (fun b hb hf => by have := hq2 b hf; omega)
          have E14 : Ext h h14 := (m12.ext_from (e0.trans (E8.trans E811)) (fun b hb hf => nfx b (.inl (by omega)) hf)).trans e134
          exact H _ (m9.ext_from (hset_ext E14 (by simp)) (fun b hb e => by have e' : b = g11.size := e; omega))
end Go.Proofs.Ytgcllbelgakjgaa
namespace Go.Proofs.Ytgcllbelgakjgaa.laterDrained
open Go.ChangeShapes Go.WideShapes Go.ChangeAt Go.RowKit Go.Joins Go.Vc

theorem own : ownKnob Try.prog.godebug = none := by kernel_rfl
theorem laidOut : laidOutB Try.prog = true := by kernel_rfl

set_option maxRecDepth 100000 in
set_option maxHeartbeats 1000000 in
theorem lifted (os : Os) (started : os.Started) (H : Type) (enc : TypeId × Value → H) :
    ReturnsInHanded {} Try.checked os 5 .any (Rows.laterDrainedSpec.pre6 enc Try.prog Try.f5 Rows.laterDrainedRow.domain false) (Rows.laterDrainedSpec.post enc Try.prog Try.f5 false true false false) := by
  refine returnsInHanded_of_change (C := Try.checked) own started (by kernel_rfl) Try.func5
    (ChangeSpec.witness6 (enc := enc) (C := Try.checked) false ⟨#[], #[.slice none 0 0, .int .i64 1, .agg #[.int .i64 0, .int .i64 0]], []⟩ 8 (by kernel_rfl) (by kernel_rfl) (by kernel_rfl) (by kernel_rfl)) ?_
  intro W base args ds gs before hval0 hW hcnd _
  have hval : ∀ (j : Nat) t v, Try.f5.params[j]? = some t → args[j]? = some v → Value.okWide Try.prog W .any base t v := hval0
  have hW' := hW
  obtain ⟨p, q, hA0, hV, rfl, hfz, hnd⟩ := hW
  have hA : DataW.TrodAll enc Try.prog W 0 (fun _ => true) true Try.f5.params.toList args.toList ds p := hA0
  rw [Try.params5] at hA hval
  obtain ⟨v0, vs0, d0, ds0, p0, q0, hargs, rfl, rfl, h0, r0⟩ := trodAll_cons hA
  obtain ⟨v1, vs1, d1, ds1, p1, q1, rfl, rfl, rfl, h1, r1⟩ := trodAll_cons r0
  obtain ⟨v2, vs2, d2, ds2, p2, q2, rfl, rfl, rfl, h2, r2⟩ := trodAll_cons r1
  obtain ⟨rfl, rfl, rfl⟩ := trodAll_nil r2
  obtain rfl : args = #[v0, v1, v2] := by cases args; simp_all
  obtain ⟨l, hl⟩ := open_runs (hval 0 22 v0 rfl rfl) h0
  obtain ⟨ms, hms, hmr⟩ := (Laid.top (hval 1 2 v1 rfl rfl) h1 (by kernel_rfl)).int (k := .i64) (by kernel_rfl)
  obtain rfl : v1 = .int .i64 ms := by simpa using hms
  obtain ⟨z, rfl, hz⟩ := open_run (hval 2 24 v2 rfl rfl) h2
  refine ((LaterDrained_c (h := W.heap) hl (i64_of hmr) hz (K := fun v h' => v = .bool true ∧ Ext W.heap h') (fun h' e => ⟨rfl, e⟩)).out W rfl).mono fun e W' ⟨v, he, hs, hv, hx⟩ => ?_
  exact ⟨v, he, hv ▸ law_post laidOut (by kernel_rfl) rfl (tb := 4) (by kernel_rfl) (by kernel_rfl) hW' (fun hg => by rw [hg]; rfl) (below_of hs hx)⟩

theorem proved : Rows.LaterDrainedSaid :=
  OpenClaim.holds_of_wide 5 Try.f5 rfl rfl rfl rfl rfl rfl rfl ⟨rfl, rfl, rfl, rfl, rfl⟩ rfl rfl rfl rfl rfl (by kernel_rfl) Try.func5 (by kernel_rfl)
    (of_decide_eq_true (by kernel_rfl)) (by unfold Func.isWrapper; first | (rw [if_pos (by decide +kernel)]; kernel_rfl) | (rw [if_neg (by decide +kernel)]; exact ⟨rfl, rfl⟩))
    (fun os started H enc _ => lifted os started H enc)
end Go.Proofs.Ytgcllbelgakjgaa.laterDrained
