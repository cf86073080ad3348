/- What is proved: the law palimpsestlaw06.StoreCrash returns true for every input, and its arguments read as they did. No conditions. -/
import Derived.Test.YtdmcaaojapcbcaaRows
import Derived.Test.YtdmcaaojapcbcaaStoG
set_option linter.unusedSimpArgs false
set_option linter.unusedVariables false
namespace Go.Proofs.Ytdmcaaojapcbcaa
open Go.Vc
variable {K : Value → Heap → Prop} {h : Heap}

set_option maxHeartbeats 8000000 in
theorem StoreCrash_c {v w u : Value} {fs : List (Int × Int)} {xs : List Stp} {ks : List Int} (hf : Fas h v fs) (hs : Sps h w xs) (hk : Its h u ks) (H : ∀ h', Ext h h' → K (.bool true) h') : CallsH Try.prog 4 #[v, w, u] h K ⟨⟩ := by
  refine n4_calls ?_
  unfold n4
  obtain ⟨va, vc, rfl, hvc⟩ := hf.form
  obtain ⟨wa, wc, rfl⟩ := hs.form
  obtain ⟨ua, uc, rfl, huc⟩ := hk.form
  have l1 := hf.few
  have l2 := hs.len
  have l3 := hk.few
  simp (disch := omega)
  refine (⟨_, rfl⟩ : ∃ g, g = h.push (.cells #[.bool false] 4)).elim fun h0 eh0 => ?_
  have e0 : Ext h h0 := by rw [eh0]; exact (by repeat' (first | (with_reducible exact Ext.refl _) | (with_reducible assumption) | (with_reducible refine push_ext ?_) | (with_reducible refine hset_ext ?_ ?_) | (with_reducible refine Ext.trans ?_ (by assumption)) | omega | (simp; done) | (simp; omega) | (refine Ext.size ?_) | (refine Nat.le_succ_of_le (Ext.size ?_))))
  have r0 : h0[h.size]? = some (.cells #[.bool false] 4) := by rw [eh0]; exact get_pushed rfl
  rw [show h.push (.cells #[.bool false] 4) = h0 from eh0.symm]
  clear eh0
  by_cases hb1 : 100 < fs.length
  · simp (disch := omega)
    refine known6_c fun h1 e1 => ?_
    have rz := (e1.block h.size (get_some_lt r0)).trans r0
    have cz := cellOf (i := 0) rz rfl
    have fz := frzOf (i := 0) rz
    simp (disch := omega) [cz, fz]
    refine RetD_nil ?_
    simp (disch := omega) [cz, fz]
    exact H _ (hset_ext (e0.trans e1) (by simp))
  simp (disch := omega)
  refine vast6_c (hs.ext e0) (fun h1 e1 => ?_) (fun h1 e1 hn hlim => ?_)
  · simp (disch := omega)
    refine known6_c fun h2 e2 => ?_
    have e12 := e1.trans e2
    have rz := (e12.block h.size (get_some_lt r0)).trans r0
    have cz := cellOf (i := 0) rz rfl
    have fz := frzOf (i := 0) rz
    simp (disch := omega) [cz, fz]
    refine RetD_nil ?_
    simp (disch := omega) [cz, fz]
    exact H _ (hset_ext (e0.trans e12) (by simp))
  simp (disch := omega)
  refine refRight_c ((hf.ext e0).ext e1) ?_
  cases hr : fs.all rightF with
  | false =>
    simp (disch := omega)
    refine known6_c fun h2 e2 => ?_
    have e12 := e1.trans e2
    have rz := (e12.block h.size (get_some_lt r0)).trans r0
    have cz := cellOf (i := 0) rz rfl
    have fz := frzOf (i := 0) rz
    simp (disch := omega) [cz, fz]
    refine RetD_nil ?_
    simp (disch := omega) [cz, fz]
    exact H _ (hset_ext (e0.trans e12) (by simp))
  | true =>
  simp (disch := omega)
  by_cases hb2 : 300 < ks.length
  · simp (disch := omega)
    refine known6_c fun h2 e2 => ?_
    have e12 := e1.trans e2
    have rz := (e12.block h.size (get_some_lt r0)).trans r0
    have cz := cellOf (i := 0) rz rfl
    have fz := frzOf (i := 0) rz
    simp (disch := omega) [cz, fz]
    refine RetD_nil ?_
    simp (disch := omega) [cz, fz]
    exact H _ (hset_ext (e0.trans e12) (by simp))
  simp (disch := omega)
  refine play_c false ((hf.ext e0).ext e1) hr (by omega) ((hs.ext e0).ext e1) hn hlim (fun e => by cases e) fun h2 p s I => ?_
  have e2 : Ext h0 h2 := e1.trans I.ext
  have hz1 := e1.size
  have hz2 := I.ext.size
  have st := I.st
  clear hlim
  refine loopX2 (α := Nat × Value) (fun a => a.2) (fun a => .int .i64 a.1) (fun a g => a.1 ≤ s.pend ∧ Ext h2 g ∧ OwnT 3 1 g a.2 (List.replicate a.1 (inV 1)) ∧ ∀ b, blkV a.2 = some b → h2.size ≤ b) (fun a => s.pend - a.1) (0, .slice none 0 0) ⟨rfl, rfl⟩ ⟨Nat.zero_le _, .refl _, .inl ⟨rfl, rfl⟩, fun b hb => by cases hb⟩ ?_
  rintro ⟨i, ov⟩ g ⟨hi, eg, oo, hob⟩ X hX
  dsimp only at hi oo hob hX ⊢
  have hpend : s.pend ≤ 30720000000 := by
    have h1 := sum_le (l := s.F.map fun x => x.f.ps.length) (n := 120000000) (fun n hn => by
      obtain ⟨x, hx, rfl⟩ := List.mem_map.1 hn
      have := st.pfew x hx
      have := I.steps
      have : x.f.ps.length = x.qs.length := by simp [Fh.f]
      omega)
    rw [List.length_map] at h1
    have := st.few
    have h2 : s.F.length * 120000000 ≤ 256 * 120000000 := Nat.mul_le_mul_right _ this
    unfold St.pend; omega
  refine Pending_c (st.ext eg) fun g1 eg1 => ?_
  obtain ⟨oa, on, oc, rfl, honl, honc, -⟩ := oo.form (by omega)
  obtain rfl : on = i := by simpa using honl.symm
  by_cases hip : on < s.pend
  · simp (disch := omega)
    refine Hp_appP (e := 3) (by_ := 8) (by kernel_rfl) (by kernel_rfl) (oo.ext eg1) rfl (by simp; omega) (by omega) fun ov' g2 o2 m2 f2 => ?_
    simp (disch := omega)
    have hgz := eg.size
    have hgz1 := eg1.size
    refine hX (on + 1, ov') _ _ _ rfl (by simp) ⟨hip, m2.ext_from (eg.trans eg1) (fun b hb e => by have := hob b e; omega), ?_, fun b hb => (f2 b hb).elim (hob b) (fun e => by omega)⟩ (by dsimp only; omega)
    dsimp only
    rw [List.replicate_succ']
    exact o2
  obtain rfl : on = s.pend := by omega
  simp (disch := omega)
  clear hX
  have hgz1 := eg1.size
  have hgz := eg.size
  have e1g : Ext h2 g1 := eg.trans eg1
  have oi : Its g1 (.slice oa s.pend oc) (List.replicate s.pend 1) := by
    have h1 : (List.replicate s.pend (1 : Int)).map inV = List.replicate s.pend (inV 1) := by simp
    have := (oo.ext eg1).g.src
    refine ⟨by rw [h1, List.length_replicate]; exact this, ⟨oa, oc, by simp, by simpa using honc⟩, by rw [List.length_replicate]; omega, fun n hn => by rw [(List.mem_replicate.1 hn).2]; omega⟩
  have hones : (List.replicate s.pend (1 : Int)).any (fun n => decide (n < 0)) = false := by
    rw [List.any_eq_false]; intro n hn; rw [(List.mem_replicate.1 hn).2]; decide
  refine Crash_c (st.ext e1g) oi (fun h3 e3 hne => by rw [hones] at hne; cases hne) (fun h3 p1 s1 L1 e3 _ pm1 _ st1 hc1 _ _ _ _ => ?_)
  simp (disch := omega)
  have hits0 : Its h3 (.slice none 0 0) [] := ⟨.inl ⟨rfl, rfl, rfl⟩, ⟨none, 0, rfl, Nat.le_refl _⟩, by decide, fun n hn => by cases hn⟩
  refine Crash_c ((st.ext e1g).ext e3) hits0 (fun h4 e4 hne => by cases hne) (fun h4 p2 s2 L2 e4 _ pm2 _ st2 hc2 _ _ _ _ => ?_)
  simp (disch := omega)
  have e04 : Ext h h4 := e0.trans (e2.trans (e1g.trans (e3.trans e4)))
  refine Crash_c (((st.ext e1g).ext e3).ext e4) (hk.ext e04) (fun h5 e5 hne => ?_) (fun h5 p3 s3 L3 e5 hneg pm3 _ st3 hc3 _ _ _ _ => ?_)
  · simp (disch := omega)
    refine known6_c fun h6 e6 => ?_
    have e12 := e2.trans (e1g.trans (e3.trans (e4.trans (e5.trans e6))))
    have rz := (e12.block h.size (get_some_lt r0)).trans r0
    have cz := cellOf (i := 0) rz rfl
    have fz := frzOf (i := 0) rz
    simp (disch := omega) [cz, fz]
    refine RetD_nil ?_
    simp (disch := omega) [cz, fz]
    exact H _ (hset_ext (e0.trans e12) (by simp))
  simp (disch := omega)
  have e05 : Ext h0 h5 := e2.trans (e1g.trans (e3.trans (e4.trans e5)))
  have st5 := (((st.ext e1g).ext e3).ext e4).ext e5
  have st51 := (st1.ext e4).ext e5
  have st52 := st2.ext e5
  refine Names_c st5 fun g6 nv L e6 pm so oL fL => ?_
  have hLl : L.length = s.F.length := by rw [pm.length_eq, List.length_map]
  have hfew := st.few
  obtain ⟨na, nn, nc, rfl, hnl, hnc, hnne⟩ := oL.form (by omega)
  obtain rfl : nn = L.length := by simpa using hnl.symm
  have e06 := e05.trans e6
  have hz06 := e06.size
  refine JoinN_in1 (fun D g => Ext g6 g ∧ ∃ ds, D = .tuple (marksV ds).toArray ∧ ds.Nodup ∧ ∀ d ∈ ds, g6.size ≤ d ∧ g[d]? = some (.deferred (some []))) (fun kk hkk => ?_) (fun D g hD => ?_)
  · refine JoinN.mk ?_
    refine loopX2 (α := Nat × List Nat) (fun a => .tuple (marksV a.2).toArray) (fun a => .int .i64 a.1) (fun a g => a.1 ≤ L.length ∧ Ext g6 g ∧ a.2.Nodup ∧ ∀ d ∈ a.2, g6.size ≤ d ∧ g[d]? = some (.deferred (some []))) (fun a => L.length - a.1) (0, []) ⟨rfl, rfl⟩ ⟨Nat.zero_le _, .refl _, .nil, fun d hd => by cases hd⟩ ?_
    rintro ⟨i, ds⟩ g ⟨hi, eg, nd, hds⟩ X hX
    dsimp only at hi nd hds hX ⊢
    by_cases hil : i < L.length
    · obtain ⟨nb, rfl⟩ := hnne (by intro e; have h9 := congrArg List.length e; simp at h9; rw [h9] at hil; simp at hil)
      have cn : ∀ g', Ext g6 g' → hcell g' ⟨nb, i, none⟩ = some (str L[i]) := fun g' e => by
        have := ((oL.ext e).elt (i := i) (by simpa using hil)).1
        rw [elt_mk, Nat.zero_add] at this
        simpa using this
      have hnb := oL.lt (b := nb) rfl
      have hmem : L[i] ∈ s.F.map (·.name) := pm.mem_iff.1 (List.getElem_mem hil)
      obtain ⟨x, hx, hxn⟩ := List.mem_map.1 hmem
      have hfl := st.fl x hx
      have hxlen := hfl.len
      have hxfew : x.last.length ≤ 268435456 := hfl.ok.few
      obtain ⟨y1, hy1, hyn1, j1, hj1, hyf1⟩ := crash_file st5 st51 pm1 hc1 hx
      obtain ⟨y2, hy2, hyn2, j2, hj2, hyf2⟩ := crash_file st5 st52 pm2 hc2 hx
      obtain ⟨y3, hy3, hyn3, j3, hj3, hyf3⟩ := crash_file st5 st3 pm3 hc3 hx
      have ny1 : y1.f.now = x.f.now := by
        have : y1.f.now = (x.f.crash ((List.replicate s.pend 1).drop j1)).last := by rw [hyf1]; rfl
        rw [this]; exact crash_all hj1 rfl
      simp (disch := omega)
      refine JoinN.mk ?_
      refine JoinN.mk ?_
      simp (disch := omega) [cn g eg, elt_mk]
      refine readAll_c ((st5.ext e6).ext eg) hx hxn fun g7 v7 e7 o7 _ _ => ?_
      have b7 := o7.bytes
      obtain ⟨v7a, v7c, hv7⟩ := b7.form
      rw [hv7] at b7
      have eg7 := eg.trans e7
      rw [hv7]
      have hz7 := eg7.size
      have hnn7 : ¬ nb = g7.size := by omega
      have hnn7' : ¬ g7.size = nb := by omega
      simp (disch := omega) [cn g7 eg7, elt_mk, hnn7, hnn7']
      refine (⟨_, rfl⟩ : ∃ f, f = hset (g7.push (.cells #[.slice none 0 0] 50)) ⟨g7.size, 0, none⟩ (.slice v7a x.f.now.length v7c)).elim fun g8 eg8 => ?_
      have e8 : Ext g7 g8 := by rw [eg8]; exact (by repeat' (first | (with_reducible exact Ext.refl _) | (with_reducible assumption) | (with_reducible refine push_ext ?_) | (with_reducible refine hset_ext ?_ ?_) | (with_reducible refine Ext.trans ?_ (by assumption)) | omega | (simp; done) | (simp; omega) | (refine Ext.size ?_) | (refine Nat.le_succ_of_le (Ext.size ?_))))
      have n8 : g8[g7.size]? = some (.cells #[.slice v7a x.f.now.length v7c] 50) := by rw [eg8]; exact obj_set (get_pushed rfl)
      rw [show hset (g7.push (.cells #[.slice none 0 0] 50)) ⟨g7.size, 0, none⟩ (.slice v7a x.f.now.length v7c) = g8 from eg8.symm]
      clear eg8
      have eg8 := eg7.trans e8
      refine readAll_c ((st51.ext e6).ext eg8) hy1 (hyn1.trans hxn) fun g9 v9 e9 o9 _ _ => ?_
      rw [ny1] at o9
      have b9 := o9.bytes
      obtain ⟨v9a, v9c, rfl⟩ := b9.form
      have eg9 := eg8.trans e9
      simp (disch := omega) [cn g9 eg9, elt_mk]
      refine readAll_c ((st52.ext e6).ext eg9) hy2 (hyn2.trans hxn) fun g10 v10 e10 o10 _ _ => ?_
      have ny2 : y2.f.now = (x.f.crash ([].drop j2)).last := by rw [hyf2]; rfl
      have ny3 : y3.f.now = (x.f.crash (ks.drop j3)).last := by rw [hyf3]; rfl
      have nl2 : y2.f.now.length = x.f.now.length := by rw [ny2, hfl.ok.crash_len, hxlen]; rfl
      have nl3 : y3.f.now.length = x.f.now.length := by rw [ny3, hfl.ok.crash_len, hxlen]; rfl
      have b10 := o10.bytes
      obtain ⟨v10a, v10c, hv10⟩ := b10.form
      rw [nl2] at hv10
      rw [hv10] at b10 o10
      have eg10 := eg9.trans e10
      rw [hv10]
      simp (disch := omega) [cn g10 eg10, elt_mk]
      refine readAll_c ((st3.ext e6).ext eg10) hy3 (hyn3.trans hxn) fun g11 v11 e11 o11 _ _ => ?_
      have b11 := o11.bytes
      obtain ⟨v11a, v11c, hv11⟩ := b11.form
      rw [nl3] at hv11
      rw [hv11] at b11 o11
      have eg11 := eg10.trans e11
      have n11 := ((e9.trans (e10.trans e11)).block g7.size (get_some_lt n8)).trans n8
      have cn11 := cellOf (i := 0) n11 rfl
      have b9' := b9.ext (e10.trans e11)
      have b7' := b7.ext (e8.trans (e9.trans (e10.trans e11)))
      have b10' := b10.ext e11
      rw [hv11]
      simp (disch := omega)
      rw [Hp_bytesStr (e := bT) (by kernel_rfl) (by kernel_rfl) (by kernel_rfl) b9']
      simp (disch := omega) [cn11]
      rw [Hp_bytesStr (e := bT) (by kernel_rfl) (by kernel_rfl) (by kernel_rfl) b7']
      simp (disch := omega) [cn11, cn g11 eg11, elt_mk]
      have hLi : L[i].length < 9223372036854775808 := by
        have := (st.names x hx).2.1
        rw [← hxn]; omega
      refine Pieces_c ((st5.ext e6).ext eg11) hLi fun g12 sb pv e12 ps hsb hpb => ?_
      have hpsx : s.psOf L[i] = x.f.ps := by rw [← hxn]; exact (psOf_mem st hx).2
      rw [hpsx] at ps
      have n12 := (e12.block g7.size (get_some_lt n11)).trans n11
      have cn12 := cellOf (i := 0) n12 rfl
      have eg12 := eg11.trans e12
      unfold seqV
      simp (disch := omega) [cn12]
      obtain ⟨N, hN⟩ : ∃ N, N = x.f.now.length := ⟨_, rfl⟩
      have hNl : N ≤ 268435456 := by rw [hN, hxlen]; exact hxfew
      rw [← hN]
      refine (⟨_, rfl⟩ : ∃ f, f = hset ((g12.push (.cells (Array.replicate N (.bool false)) 4)).push (.cells #[.slice none 0 0] 56)) ⟨g12.size + 1, 0, none⟩ (.slice (some ⟨g12.size, 0, none⟩) N N)).elim fun g13 eg13 => ?_
      have e13 : Ext g12 g13 := by rw [eg13]; exact (by repeat' (first | (with_reducible exact Ext.refl _) | (with_reducible assumption) | (with_reducible refine push_ext ?_) | (with_reducible refine hset_ext ?_ ?_) | (with_reducible refine Ext.trans ?_ (by assumption)) | omega | (simp; done) | (simp; omega) | (refine Ext.size ?_) | (refine Nat.le_succ_of_le (Ext.size ?_))))
      have z13 : g13.size = g12.size + 2 := by rw [eg13]; simp
      have tv13 : g13[g12.size + 1]? = some (.cells #[.slice (some ⟨g12.size, 0, none⟩) N N] 56) := by rw [eg13]; exact obj_set (get_pushed (by simp))
      have tb13 : OwnT 4 1 g13 (.slice (some ⟨g12.size, 0, none⟩) N N) ((List.replicate N false).map .bool) := by
        refine .inr ⟨g12.size, N, N, [], rfl, by simp, Nat.le_refl _, ?_, by simp⟩
        rw [eg13]
        refine (get_hset' (by omega)).trans ((get_push (by simp)).trans ((get_pushed rfl).trans ?_))
        congr 2
        simp
      rw [show hset ((g12.push (.cells (Array.replicate N (.bool false)) 4)).push (.cells #[.slice none 0 0] 56)) ⟨g12.size + 1, 0, none⟩ (.slice (some ⟨g12.size, 0, none⟩) N N) = g13 from eg13.symm]
      clear eg13
      have hz12 := eg12.size
      have hppl : (ppL x.f.ps).length = x.f.ps.length := List.length_map _
      have hsbl := get_some_lt ps.cell
      refine JoinN_in1 (fun D g => ∃ ds', D = .tuple (marksV ds').toArray ∧ Ext g12 g ∧ ds'.Nodup ∧ (∀ d ∈ ds', g6.size ≤ d ∧ g[d]? = some (.deferred (some []))) ∧ g[g12.size + 1]? = some (.cells #[.slice (some ⟨g12.size, 0, none⟩) N N] 56) ∧ ∃ T : List Bool, T.length = N ∧ OwnT 4 1 g (.slice (some ⟨g12.size, 0, none⟩) N N) (T.map .bool) ∧ ∀ i, T[i]? = some false → ∀ q ∈ x.f.ps, i < q.at_ ∨ q.at_ + q.b.length ≤ i) (fun kk2 hkk2 => ?_) (fun D g14 hD => ?_)
      · refine JoinN.mk ?_
        refine RangeP (ps.ext e13) (fun j g => Ext g12 g ∧ g[g12.size + 1]? = some (.cells #[.slice (some ⟨g12.size, 0, none⟩) N N] 56) ∧ ∃ T : List Bool, T.length = N ∧ OwnT 4 1 g (.slice (some ⟨g12.size, 0, none⟩) N N) (T.map .bool) ∧ ∀ i, T[i]? = some false → ∀ q ∈ x.f.ps.take j, i < q.at_ ∨ q.at_ + q.b.length ≤ i)
          (fun g2 e3 _ => ?_) (fun j g2 g3 hΦ e3 => ?_) (fun j hj g2 oR oB J Y hΦ hgz hgd hgl hoR hoB hY => ?_) (fun g2 oE hΦ hd hlt hlo => ?_)
        · exact ⟨e13.trans e3, (e3.block _ (get_some_lt tv13)).trans tv13, _, by simp, tb13.ext e3, fun i _ q hq => by simp at hq⟩
        · obtain ⟨x1, x2, T, x3, x4, x5⟩ := hΦ
          exact ⟨x1.trans e3, (e3.block _ (get_some_lt x2)).trans x2, T, x3, x4.ext e3, x5⟩
        · obtain ⟨x1, x2, T, x3, x4, x5⟩ := hΦ
          have hj' : j < x.f.ps.length := by omega
          obtain ⟨q, hq⟩ : ∃ q, q = x.f.ps[j] := ⟨_, rfl⟩
          have hp1 : (ppL x.f.ps)[j].1 = (q.at_ : Int) := by rw [hq]; simp [ppL]
          have hp2 : (ppL x.f.ps)[j].2 = (q.b.length : Int) := by rw [hq]; simp [ppL]
          obtain ⟨qok, qfit⟩ := hfl.ok.pc q (by rw [hq]; exact List.getElem_mem hj')
          have qfit : q.at_ + q.b.length ≤ x.last.length := qfit
          have qpos := qok.pos
          have qone := qok.one
          have hNx : N = x.last.length := by rw [hN, hxlen]
          rw [hp1, hp2]
          simp (disch := omega) [getV]
          refine (⟨_, rfl⟩ : ∃ f, f = hset (hset (g2.push (.cells #[.int .i64 0, .int .i64 0] 58)) ⟨g2.size, 0, none⟩ (.int .i64 q.at_)) ⟨g2.size, 1, none⟩ (.int .i64 q.b.length)).elim fun g3 eg3 => ?_
          have e3 : Ext g2 g3 := by rw [eg3]; exact (by repeat' (first | (with_reducible exact Ext.refl _) | (with_reducible assumption) | (with_reducible refine push_ext ?_) | (with_reducible refine hset_ext ?_ ?_) | (with_reducible refine Ext.trans ?_ (by assumption)) | omega | (simp; done) | (simp; omega) | (refine Ext.size ?_) | (refine Nat.le_succ_of_le (Ext.size ?_))))
          have p3 : g3[g2.size]? = some (.cells #[.int .i64 q.at_, .int .i64 q.b.length] 58) := by rw [eg3]; exact obj_set (obj_set (get_pushed rfl))
          rw [← eg3]
          clear eg3
          have gl3 := (e3.block _ (get_some_lt hgl)).trans hgl
          refine ⟨gl3, ?_⟩
          refine (⟨_, rfl⟩ : ∃ f, f = g3.setIfInBounds (g13.size + 1) oB).elim fun gB egB => ?_
          have mB : Mod (· = g13.size + 1) g3 gB := by rw [egB]; exact Mod.put _ _ _
          have gLB : gB[g13.size + 1]? = some oB := by rw [egB]; exact get_put (get_some_lt gl3)
          rw [← egB]
          clear egB
          have hz3 := e3.size
          have pB := (mB.block _ (get_some_lt p3) (by omega)).trans p3
          have q0 := cellOf (i := 0) pB rfl
          have q1 := cellOf (i := 1) pB rfl
          have x2B := (mB.block (g12.size + 1) (by have := get_some_lt x2; omega) (by omega)).trans ((e3.block _ (get_some_lt x2)).trans x2)
          have x4B : OwnT 4 1 gB (.slice (some ⟨g12.size, 0, none⟩) N N) (T.map .bool) := (x4.ext e3).mod mB (fun b hb e => by cases hb; have e' : g12.size = g13.size + 1 := e; omega)
          have nB := cellOf (i := 0) ((mB.block g7.size (by have := get_some_lt n12; have := x1.size; omega) (by have := get_some_lt n12; omega)).trans ((e3.block _ (by have := get_some_lt n12; have := x1.size; omega)).trans ((x1.block _ (get_some_lt n12)).trans n12))) rfl
          have t0 := cellOf (i := 0) x2B rfl
          simp (disch := omega) [q0, q1, nB]
          have hB12 : g12.size + 2 ≤ g13.size := by omega
          have hBz := mB.size
          refine loopX1 (α := Nat × List Bool) (fun a => .int .i64 a.1) (fun a g => q.at_ ≤ a.1 ∧ a.1 ≤ q.at_ + q.b.length ∧ Mod (· = g12.size) gB g ∧ a.2.length = N ∧ OwnT 4 1 g (.slice (some ⟨g12.size, 0, none⟩) N N) (a.2.map .bool) ∧ ∀ i, a.2[i]? = some false → T[i]? = some false ∧ (i < q.at_ ∨ a.1 ≤ i))
            (fun a => q.at_ + q.b.length - a.1) (q.at_, T) rfl ⟨Nat.le_refl _, by dsimp only; omega, .refl _ _, x3, x4B, fun i hi => ⟨hi, by dsimp only; omega⟩⟩ ?_
          rintro ⟨k, T'⟩ g4 ⟨hk0, hk1, m4, y3, y4, y5⟩ Z hZ
          dsimp only at hk0 hk1 y3 y4 y5 hZ ⊢
          have p4 := (m4.block g2.size (get_some_lt pB) (by omega)).trans pB
          have q4 := cellOf (i := 0) p4 rfl
          have q5 := cellOf (i := 1) p4 rfl
          have tv4 := (m4.block (g12.size + 1) (get_some_lt x2B) (by omega)).trans x2B
          have t4 := cellOf (i := 0) tv4 rfl
          by_cases hke : k < q.at_ + q.b.length
          · have hkN : k < N := by omega
            have ck := y4.elt (i := k) (by simpa [y3] using hkN)
            have ce : (T'.map Value.bool)[k]'(by simpa [y3] using hkN) = .bool (T'[k]'(by omega)) := by simp
            rw [ce] at ck
            simp (disch := omega) [q4, q5, t4, ck.1, ck.2]
            have o5 := y4.setE (i := k) (u := .bool true) (by simpa [y3] using hkN)
            have em : (T'.map Value.bool).set k (.bool true) = (T'.set k true).map .bool := by simp [List.map_set]
            rw [em] at o5
            refine hZ (k + 1, T'.set k true) _ _ (by simp) ⟨by dsimp only; omega, by dsimp only; omega, Mod.setIn m4 (.inl (by simp)), by simpa using y3, o5, fun i hi => ?_⟩ (by dsimp only; omega)
            dsimp only at hi ⊢
            by_cases hik : i = k
            · subst hik
              rw [List.getElem?_set_self (by omega)] at hi; cases hi
            · rw [List.getElem?_set_ne (Ne.symm hik)] at hi
              have := y5 i hi
              exact ⟨this.1, by have := this.2; omega⟩
          · obtain rfl : k = q.at_ + q.b.length := by omega
            have gL4 := (m4.block (g13.size + 1) (get_some_lt gLB) (by omega)).trans gLB
            simp (disch := omega) [q4, q5]
            refine ⟨gL4, ?_⟩
            have m5 : Mod (fun b => b = g12.size ∨ b = g13.size + 1) g2 (g4.setIfInBounds (g13.size + 1) oR) := by
              refine Mod.putIn ?_ (.inl (.inr rfl))
              exact ((Mod.of_ext e3).trans (mB.mono (T := fun b => b = g12.size ∨ b = g13.size + 1) (fun b _ e => .inr e)) (fun b _ e => e)).trans m4 (fun b _ e => .inl e)
            refine hY _ _ ⟨m5.ext_from x1 (fun b hb e => by omega), (m5.block _ (get_some_lt x2) (by omega)).trans x2, T', y3, y4.mod (Mod.put _ _ _) (fun b hb e => by cases hb; have e' : g12.size = g13.size + 1 := e; omega), fun i hi r hr => ?_⟩ (get_put (get_some_lt gL4)) m5 (fun e => by have e' : g13.size = g12.size ∨ g13.size = g13.size + 1 := e; omega) (fun e => by have e' : sb = g12.size ∨ sb = g13.size + 1 := e; omega) (fun b hb e => by have e' : b = g12.size ∨ b = g13.size + 1 := e; have := ps.row.lt hb; omega)
            rw [List.take_succ_eq_append_getElem hj'] at hr
            have := y5 i hi
            rcases List.mem_append.1 hr with hr | hr
            · exact x5 i this.1 r hr
            · simp at hr; subst hr; rw [← hq]; exact this.2
        · obtain ⟨x1, x2, T, x3, x4, x5⟩ := hΦ
          rw [consD_marks]
          have mE := Mod.put g2 (g13.size + 1) oE
          have hdl : ∀ d ∈ ds, d < g12.size := fun d hd => by have := get_some_lt (hds d hd).2; have h1 := (e7.trans (e8.trans (e9.trans (e10.trans (e11.trans e12))))).size; omega
          have e12g := e7.trans (e8.trans (e9.trans (e10.trans (e11.trans e12))))
          have ex : Ext g12 (g2.setIfInBounds (g13.size + 1) oE) := mE.ext_from x1 (fun b hb e => by omega)
          refine hkk2 _ _ ⟨g13.size :: ds, rfl, ex, List.nodup_cons.2 ⟨fun h => by have := hdl _ h; omega, nd⟩, fun d hd' => ?_, (get_putne (by omega)).trans x2, T, x3, x4.mod mE (fun b hb e => by cases hb; have e' : g12.size = g13.size + 1 := e; omega), fun i hi => ?_⟩
          · rcases List.mem_cons.1 hd' with rfl | hd'
            · exact ⟨by omega, (get_putne (by omega)).trans hd⟩
            · exact ⟨(hds d hd').1, ((e12g.trans ex).block d (get_some_lt (hds d hd').2)).trans (hds d hd').2⟩
          · rw [hppl, List.take_length] at x5
            exact x5 i hi
      · obtain ⟨ds', rfl, e14, nd', hds', tv14, T, hT, oT, hTo⟩ := hD
        have n14 := (e14.block _ (get_some_lt n12)).trans n12
        have cn14 := cellOf (i := 0) n14 rfl
        have ct14 := cellOf (i := 0) tv14 rfl
        have b7'' := b7'.ext (e12.trans e14)
        have b10'' := b10'.ext (e12.trans e14)
        have b11'' := b11.ext (e12.trans e14)
        rw [← hN] at b7'' b10'' b11'' cn14
        refine loopX1 (α := Nat) (fun k => .int .i64 k) (fun k g => k ≤ N ∧ g = g14) (fun k => N - k) 0 rfl ⟨Nat.zero_le _, rfl⟩ ?_
        rintro k g ⟨hk, rfl⟩ Z hZ
        by_cases hkN : k < N
        · have ck := (oT.elt (i := k) (by simpa [hT] using hkN)).1
          have ce : (T.map Value.bool)[k]'(by simpa [hT] using hkN) = .bool (T[k]'(by omega)) := by simp
          rw [ce] at ck
          obtain ⟨a7, rfl, -, -, A7⟩ := b7''.at (by omega)
          obtain ⟨a10, rfl, -, -, A10⟩ := b10''.at (by omega)
          obtain ⟨a11, rfl, -, -, A11⟩ := b11''.at (by omega)
          have c7 := A7 k (by omega)
          have c10 := A10 k (by omega)
          have c11 := A11 k (by omega)
          cases hTk : T[k]'(by omega) with
          | true =>
            rw [hTk] at ck
            simp (disch := omega) [cn14, ct14, ck]
            exact hZ (k + 1) _ _ (by simp) ⟨hkN, rfl⟩ (by omega)
          | false =>
            rw [hTk] at ck
            have hout := hTo k (by rw [List.getElem?_eq_getElem (by omega), hTk])
            have d2 := crash_out hfl.ok ([].drop j2) hout
            have d3 := crash_out hfl.ok (ks.drop j3) hout
            have q2 : y2.f.now[k]'(by omega) = x.f.now[k]'(by omega) := by
              rw [← ny2, List.getElem?_eq_getElem (by omega), List.getElem?_eq_getElem (by omega)] at d2
              exact Option.some.inj d2
            have q3 : y3.f.now[k]'(by omega) = x.f.now[k]'(by omega) := by
              rw [← ny3, List.getElem?_eq_getElem (by omega), List.getElem?_eq_getElem (by omega)] at d3
              exact Option.some.inj d3
            rw [q2] at c10
            rw [q3] at c11
            unfold byteV at c7 c10 c11
            simp (disch := omega) [cn14, ct14, ck, c7, c10, c11]
            exact hZ (k + 1) _ _ (by simp) ⟨hkN, rfl⟩ (by omega)
        · obtain rfl : k = N := by omega
          simp (disch := omega) [cn14]
          have e12g := e7.trans (e8.trans (e9.trans (e10.trans (e11.trans e12))))
          exact hX (i + 1, ds') _ _ _ rfl (by simp) ⟨hil, eg.trans (e12g.trans e14), nd', hds'⟩ (by dsimp only; omega)
    · obtain rfl : i = L.length := by omega
      simp (disch := omega)
      exact hkk _ _ ⟨eg, ds, rfl, nd, hds⟩
  · obtain ⟨eg, ds, rfl, nd, hds⟩ := hD
    refine Pending_c ((st3.ext e6).ext eg) fun g7 e7 => ?_
    rw [crash_pend hc3]
    simp (disch := omega)
    refine known6_c fun g8 e8 => ?_
    have e08 := e06.trans (eg.trans (e7.trans e8))
    have rz := (e08.block h.size (get_some_lt r0)).trans r0
    have cz := cellOf (i := 0) rz rfl
    have fz := frzOf (i := 0) rz
    have hrl := get_some_lt r0
    simp (disch := omega) [cz, fz]
    refine RetD_all (fun d hd => (get_hset' ?_).trans (((e7.trans e8).block d (get_some_lt (hds d hd).2)).trans (hds d hd).2)) nd (fun g9 m9 => ?_)
    · have := (hds d hd).1; omega
    have rz9 := (m9.block h.size (by rw [hset_size]; exact get_some_lt rz) (fun e => by have := (hds _ e).1; omega)).trans (obj_set (i := 0) (v := .bool true) rz)
    have cz9 := cellOf (i := 0) rz9 rfl
    simp (disch := omega) [cz9]
    refine H _ (m9.ext_from (hset_ext (e0.trans e08) (by simp)) (fun b hb e => by have := (hds b e).1; have := e0.size; omega))
end Go.Proofs.Ytdmcaaojapcbcaa
namespace Go.Proofs.Ytdmcaaojapcbcaa.storeCrash
open Go.ChangeShapes Go.WideShapes Go.ChangeAt Go.RowKit Go.Joins Go.Vc

theorem own : ownKnob Try.prog.godebug = none := by kernel_rfl
theorem laidOut : laidOutB Try.prog = true := by kernel_rfl

set_option maxRecDepth 100000 in
set_option maxHeartbeats 1000000 in
theorem lifted (os : Os) (started : os.Started) (H : Type) (enc : TypeId × Value → H) :
    ReturnsInHanded {} Try.checked os 4 .any (Rows.storeCrashSpec.pre6 enc Try.prog Try.f4 Rows.storeCrashRow.domain false) (Rows.storeCrashSpec.post enc Try.prog Try.f4 false true false false) := by
  refine returnsInHanded_of_change (C := Try.checked) own started (by kernel_rfl) Try.func4
    (ChangeSpec.witness6 (enc := enc) (C := Try.checked) false ⟨#[], #[.slice none 0 0, .slice none 0 0, .slice none 0 0], []⟩ 8 (by kernel_rfl) (by kernel_rfl) (by kernel_rfl) (by kernel_rfl)) ?_
  intro W base args ds gs before hval0 hW hcnd _
  have hval : ∀ (j : Nat) t v, Try.f4.params[j]? = some t → args[j]? = some v → Value.okWide Try.prog W .any base t v := hval0
  have hW' := hW
  obtain ⟨p, q, hA0, hV, rfl, hfz, hnd⟩ := hW
  have hA : DataW.TrodAll enc Try.prog W 0 (fun _ => true) true Try.f4.params.toList args.toList ds p := hA0
  rw [Try.params4] at hA hval
  obtain ⟨v0, vs0, d0, ds0, p0, q0, hargs, rfl, rfl, h0, r0⟩ := trodAll_cons hA
  obtain ⟨v1, vs1, d1, ds1, p1, q1, rfl, rfl, rfl, h1, r1⟩ := trodAll_cons r0
  obtain ⟨v2, vs2, d2, ds2, p2, q2, rfl, rfl, rfl, h2, r2⟩ := trodAll_cons r1
  obtain ⟨rfl, rfl, rfl⟩ := trodAll_nil r2
  obtain rfl : args = #[v0, v1, v2] := by cases args; simp_all
  obtain ⟨fs, hfs⟩ := open_fates (hval 0 41 v0 rfl rfl) h0
  obtain ⟨xs, hxs⟩ := open_steps (hval 1 42 v1 rfl rfl) h1
  obtain ⟨ks, hks⟩ := open_its (hval 2 23 v2 rfl rfl) h2
  refine ((StoreCrash_c (h := W.heap) hfs hxs hks (K := fun v h' => v = .bool true ∧ Ext W.heap h') (fun h' e => ⟨rfl, e⟩)).out W rfl).mono fun e W' ⟨v, he, hs, hv, hx⟩ => ?_
  exact ⟨v, he, hv ▸ law_post laidOut (by kernel_rfl) rfl (tb := 4) (by kernel_rfl) (by kernel_rfl) hW' (fun hg => by rw [hg]; rfl) (below_of hs hx)⟩

theorem proved : Rows.StoreCrashSaid :=
  OpenClaim.holds_of_wide 4 Try.f4 rfl rfl rfl rfl rfl rfl rfl ⟨rfl, rfl, rfl, rfl, rfl⟩ rfl rfl rfl rfl rfl (by kernel_rfl) Try.func4 (by kernel_rfl)
    (of_decide_eq_true (by kernel_rfl)) (by unfold Func.isWrapper; first | (rw [if_pos (by decide +kernel)]; kernel_rfl) | (rw [if_neg (by decide +kernel)]; exact ⟨rfl, rfl⟩))
    (fun os started H enc _ => lifted os started H enc)
end Go.Proofs.Ytdmcaaojapcbcaa.storeCrash
