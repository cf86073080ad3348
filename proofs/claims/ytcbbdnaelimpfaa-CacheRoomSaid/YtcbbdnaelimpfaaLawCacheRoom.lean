/- What is proved: the law palimpsestlaw14.CacheRoom returns true for every input, and its arguments read as they did. No conditions. -/
import Derived.Test.YtcbbdnaelimpfaaRows
import Derived.Test.YtcbbdnaelimpfaaCacD
import Derived.Test.YtcbbdnaelimpfaaOpen
import Derived.Test.YtcbbdnaelimpfaaClose
set_option linter.unusedSimpArgs false
set_option linter.unusedVariables false
namespace Go.Proofs.Ytcbbdnaelimpfaa
open Go.Vc Go.Sort
variable {K : Value → Heap → Prop} {h : Heap}

/-- Where the loop stands. -/
structure Rz where
  i : Nat
  c : Ca
  s : St
  p : Ps
  ds : List Nat
  us : Nat
  ws : Nat
structure RmI (h0 g : Heap) (o room : Nat) (z : Rz) : Prop where
  S : Ses g o z.i z.c z.s z.p
  fr : Fr h0 g o z.c z.s
  R : Rk z.c z.p room z.us z.ws
  ds : ∀ d ∈ z.ds, g[d]? = some (.deferred (some [])) ∧ ¬ Ft o z.c z.s d ∧ h0.size ≤ d
  nd : z.ds.Nodup
  us : z.us ≤ z.i
  ws : z.ws ≤ z.i
theorem RmI.step {h0 g gy G : Heap} {o room : Nat} {z : Rz} {c' : Ca} {s' : St} {p' : Ps} {us' ws' : Nat} (I : RmI h0 g o room z) (e : Ext g gy) (u : CUpd gy G o z.c z.s c' s') (S : Ses G o (z.i + 1) c' s' p') (R : Rk c' p' room us' ws') (h1 : us' ≤ z.i + 1) (h2 : ws' ≤ z.i + 1) : RmI h0 G o room ⟨z.i + 1, c', s', p', z.ds, us', ws'⟩ :=
  ⟨S, (I.fr.go e).upd u, R, fun d hd => by
    obtain ⟨d1, d2, d3⟩ := I.ds d hd
    have hl := get_some_lt d1
    have he := e.size
    exact ⟨(u.mod.block _ (by omega) d2).trans ((e.block _ hl).trans d1), fun hf => (u.foot _ hf).elim d2 (fun x => by omega), d3⟩, I.nd, h1, h2⟩
def callsT : Nat := 50
def boT : Nat := 4
set_option maxHeartbeats 16000000 in
theorem CacheRoom_c {size bits room : Int} {v : Value} {xs : List Sc} (hx : Scs h v xs) (H : ∀ h', Ext h h' → K (.bool true) h') : CallsH Try.prog 4 #[.agg #[.int .i64 size, .int .i64 bits, .int .i64 room, v]] h K ⟨⟩ := by
  refine n4_calls ?_
  unfold n4
  obtain ⟨va, vc, rfl⟩ := hx.form
  have hlen := hx.len
  simp (disch := omega)
  refine (⟨_, rfl⟩ : ∃ G, G = (h.push (.cells #[.int .i64 size, .int .i64 bits, .int .i64 room, .slice va xs.length vc] callsT)).push (.cells #[.bool false] boT)).elim fun h0 eh0 => ?_
  have e0 : Ext h h0 := by rw [eh0]; exact (by repeat' (first | (with_reducible exact Ext.refl _) | (with_reducible assumption) | (with_reducible refine push_ext ?_) | (with_reducible refine hset_ext ?_ ?_) | (with_reducible refine Ext.trans ?_ (by assumption)) | omega | (simp; done) | (simp; omega) | (refine Ext.size ?_) | (refine Nat.le_succ_of_le (Ext.size ?_))))
  have x0 : h0[h.size]? = some (.cells #[.int .i64 size, .int .i64 bits, .int .i64 room, .slice va xs.length vc] callsT) := by rw [eh0, get_push (by simp)]; exact get_pushed rfl
  have r0 : h0[h.size + 1]? = some (.cells #[.bool false] boT) := by rw [eh0]; exact get_pushed (by simp)
  have z0 : h0.size = h.size + 2 := by rw [eh0]; simp
  rw [show (h.push (.cells #[.int .i64 size, .int .i64 bits, .int .i64 room, .slice va xs.length vc] 50)).push (.cells #[.bool false] 4) = h0 from eh0.symm]
  clear eh0
  have hxl := get_some_lt x0
  have hrl := get_some_lt r0
  have cx0 := cellOf (i := 0) x0 rfl
  have cx1 := cellOf (i := 1) x0 rfl
  have cx2 := cellOf (i := 2) x0 rfl
  have cx3 := cellOf (i := 3) x0 rfl
  have cr0 := cellOf (i := 0) r0 rfl
  refine fits_c (hx.ext e0) (fun h1 e1 fit => ?_) (fun h1 e1 => ?_)
  · obtain ⟨f0, f1, f2, f3, f4, f5, f6, f7⟩ := fit
    obtain ⟨sz, rfl⟩ := Int.eq_ofNat_of_zero_le f0
    obtain ⟨bi, rfl⟩ := Int.eq_ofNat_of_zero_le (show (0 : Int) ≤ bits by omega)
    obtain ⟨ro, rfl⟩ := Int.eq_ofNat_of_zero_le (show (0 : Int) ≤ room by omega)
    have cx0' := hcell_ext e1 cx0
    have cx1' := hcell_ext e1 cx1
    have cx2' := hcell_ext e1 cx2
    simp (disch := omega) [cx0', cx1', cx2']
    refine file_c (n := sz) (by omega) fas_nil (by decide) (fun h2 e2 hr => by cases hr) (fun h2 sp s e2 _ st ps fo qs => ?_)
    have cx1'' := hcell_ext e2 cx1'
    have cx2'' := hcell_ext e2 cx2'
    simp (disch := omega) [cx1'', cx2'']
    refine cNew_c (bits := bi) (room := ro) st ps rfl (by omega) (by omega) (by omega) (by omega) fun h3 o km pm wm e3 a3 ho fo3 => ?_
    have S0 := Ses.new a3 ps (by omega) (by omega)
    have X0 : Fr h0 h3 o (newC sp bi ro km pm wm) s := ⟨e1.trans (e2.trans e3), fun b hb => hb.elim (fun e => by have := fo3 b e; have := e1.size; have := e2.size; omega) (fun e => by have := fo b e; have := e1.size; omega)⟩
    have O0 : Okp ⟨some (fl0 sz), [], 2⟩ := ⟨⟨_, rfl⟩, rfl⟩
    have hsp : ptrV sp = .pointer (some ⟨sp, 0, none⟩) := rfl
    have hoo : ptrV o = .pointer (some ⟨o, 0, none⟩) := rfl
    simp (disch := omega) [hsp, hoo]
    refine num_c ?_
    simp (disch := omega)
    refine JoinN.mk (JoinN.mk ?_)
    refine loopX4 (α := Rz) (fun z => .tuple (marksV z.ds).toArray) (fun z => .int .i64 z.us) (fun z => .int .i64 z.ws) (fun z => .int .i64 z.i) (fun z g => z.i ≤ xs.length ∧ RmI h0 g o ro z) (fun z => xs.length - z.i) ⟨0, newC sp bi ro km pm wm, s, ⟨some (fl0 sz), [], 2⟩, [], 0, 0⟩ ⟨rfl, rfl, rfl, rfl⟩ ⟨Nat.zero_le _, S0, X0, ⟨O0, rfl, rfl, rfl, Nat.le_refl _, Nat.le_refl _, (fun x hx => by cases hx)⟩, (fun d hd => by cases hd), .nil, Nat.le_refl _, Nat.le_refl _⟩ ?_
    rintro z g ⟨hi, I⟩ X hX
    have cg1 := hcell_ext I.fr.ext cx1
    have cg2 := hcell_ext I.fr.ext cx2
    have cg3 := hcell_ext I.fr.ext cx3
    have hus := I.us
    have hws := I.ws
    by_cases hil : z.i < xs.length
    · obtain ⟨ad, c', hv, k0, k1, k2, k3, k4, k5⟩ := ((hx.ext e0).ext I.fr.ext).cell hil
      injection hv with hv1 _ hv3
      subst hv1
      have hxo := ((hx.ext e0).ext I.fr.ext).ok xs[z.i] (List.getElem_mem hil)
      have hpg := f7 xs[z.i] (List.getElem_mem hil)
      obtain ⟨ba, bc, hbv⟩ := hxo.b.form
      have hbl := hxo.bl
      rw [hbv] at k5
      simp (disch := omega) [cg3, hil]
      refine JoinN.mk (JoinN.mk ?_)
      simp (disch := omega) [cg3, k0, k1, k2, k3, k4, k5]
      refine JoinN_in2 (fun u w G => ∃ z' : Rz, u = .int .i64 z'.us ∧ w = .int .i64 z'.ws ∧ RmI h0 G o ro z' ∧ z'.i = z.i + 1 ∧ z'.ds = z.ds) (fun kk hkk => ?_) (fun u w G hG => ?_)
      · generalize hgy : hset _ (⟨g.size, 5, none⟩ : Addr) _ = gy
        have ey : Ext g gy := by rw [← hgy]; exact put6_ext (by repeat' (first | (with_reducible exact Ext.refl _) | (with_reducible assumption) | (with_reducible refine push_ext ?_) | (with_reducible refine hset_ext ?_ ?_) | (with_reducible refine Ext.trans ?_ (by assumption)) | omega | (simp; done) | (simp; omega) | (refine Ext.size ?_) | (refine Nat.le_succ_of_le (Ext.size ?_)))) (Nat.le_refl _)
        have yy : gy[g.size]? = some (.cells #[.int .i64 xs[z.i].kind, .int .i64 xs[z.i].at_, .int .i64 xs[z.i].n, .int .i64 xs[z.i].page, .int .i64 xs[z.i].other, .slice ba xs[z.i].b.length bc] 52) := by rw [← hgy]; exact put6 (get_pushed rfl)
        clear hgy
        have zy := ey.size
        have y0 := cellOf (i := 0) yy rfl
        have y1 := cellOf (i := 1) yy rfl
        have y2 := cellOf (i := 2) yy rfl
        have y3 := cellOf (i := 3) yy rfl
        have y5 := cellOf (i := 5) yy rfl
        have Sy := I.S.ext ey
        have hxk := hxo.kind
        have hxa := hxo.at_
        have hxn := hxo.n
        have hxpg := hxo.page
        unfold i64 at hxk hxa hxn hxpg
        have bB := hxo.b.ext ey
        have bB0 := (hx.ok xs[z.i] (List.getElem_mem hil)).b
        rw [hbv] at bB0
        rw [hbv] at bB
        generalize xs[z.i] = x at *
        have stay : RmI h0 gy o ro { z with i := z.i + 1 } := ⟨Sy.mono (Nat.le_succ _), I.fr.go ey, I.R, fun d hd => by
          obtain ⟨d1, d2, d3⟩ := I.ds d hd
          exact ⟨(ey.block _ (get_some_lt d1)).trans d1, d2, d3⟩, I.nd, Nat.le_succ_of_le hus, Nat.le_succ_of_le hws⟩
        have r1 : 1 ≤ z.c.room := by rw [I.R.room]; omega
        by_cases hk : x.kind.tmod 2 = 0
        · simp (disch := omega) [y0, y1, y2, y3, hk]
          refine read_s Sy (by omega) hxa.1 hxa.2 hxn.1 hxn.2 (fun hne => ?_) (fun h4 s4 f rk hf hr hu hne u4 S4 => ?_) (fun h4 s4 f rk pb bb gg v4 hf hr hu hok hgg u4 S4 ov fv => ?_)
          · simp (disch := omega)
            refine num_c ?_
            simp (disch := omega)
            exact hkk _ _ _ ⟨{ z with i := z.i + 1 }, rfl, rfl, stay, rfl, rfl⟩
          · exact absurd (useP_okp (x := (z.c, z.p)) hf hr r1 I.R.O).1 hne
          · simp (disch := omega)
            refine num_c ?_
            simp (disch := omega)
            exact hkk _ _ _ ⟨⟨z.i + 1, _, s4, _, z.ds, z.us + 1, z.ws⟩, by simp, rfl, I.step ey u4 S4 (I.R.use hf hr I.S.wf.inv I.S.coh.nd r1 hpg.1 hok) (by omega) (by omega), rfl, rfl⟩
        · simp (disch := omega) [y0, y1, y3, y5, hk]
          refine write_x Sy (by omega) hxa.1 hxa.2 bB hbl (fun d hne hd _ hF => ?_) (fun hne => ?_) (fun h4 s4 f rk hf hr hu hne u4 S4 => ?_) (fun h4 s4 f rk pb bb gg hf hr hu hok hgg u4 S4 => ?_)
          · have h1 := bB0.lt hd hne
            have h2 := I.fr.fr _ hF
            omega
          · refine num_c ?_
            simp (disch := omega)
            exact hkk _ _ _ ⟨{ z with i := z.i + 1 }, rfl, rfl, stay, rfl, rfl⟩
          · exact absurd (useP_okp (x := (z.c, z.p)) hf hr r1 I.R.O).1 hne
          · refine num_c ?_
            simp (disch := omega)
            have nd4 := (useP_coh (x := (z.c, z.p)) hf hr I.S.coh I.S.wf.inv (ask_ok I.S.at_.co.ok.b1 (useE_ok hu).2.2.2) (n := x.page) (pb := pb) (bb := bb)).1.nd
            exact hkk _ _ _ ⟨⟨z.i + 1, _, s4, _, z.ds, z.us + 1, z.ws + 1⟩, by simp, by simp, I.step ey u4 S4 ((I.R.use hf hr I.S.wf.inv I.S.coh.nd r1 hpg.1 hok).wrote nd4 _ _ _) (by omega) (by omega), rfl, rfl⟩
      · refine hG.elim fun z' hG => ?_
        have hu := hG.1
        have hw := hG.2.1
        have I' := hG.2.2.1
        have hi' := hG.2.2.2.1
        have hds := hG.2.2.2.2
        rw [hu, hw]
        refine Pages_c I'.S.at_.co fun h5 sb sv e5 nq hsb fsb => ?_
        have I5s := I'.S.ext e5
        have zG := e5.size
        unfold nsqV
        simp (disch := omega)
        generalize hg6 : hset _ (⟨h5.size, 0, none⟩ : Addr) _ = g6
        have e6 : Ext h5 g6 := by rw [← hg6]; exact hset_ext (by repeat' (first | (with_reducible exact Ext.refl _) | (with_reducible assumption) | (with_reducible refine push_ext ?_) | (with_reducible refine hset_ext ?_ ?_) | (with_reducible refine Ext.trans ?_ (by assumption)) | omega | (simp; done) | (simp; omega) | (refine Ext.size ?_) | (refine Nat.le_succ_of_le (Ext.size ?_)))) (Nat.le_refl _)
        have n6 : g6[h5.size]? = some (.cells #[.int .i64 0] 3) := by rw [← hg6]; exact obj_set (get_pushed rfl)
        clear hg6
        have z6 := e6.size
        have nl6 := get_some_lt n6
        have nq6 := nq.ext e6
        have hnl : z'.c.nums.length ≤ 20 := by
          have h1 := (nums_perm z'.c).length_eq
          rw [List.length_map] at h1
          have h2 := I'.S.at_.co.ok.few
          have h3 := I'.R.room
          omega
        have hmem : ∀ n ∈ z'.c.nums, 0 ≤ n ∧ n < 12 := fun n hn => by
          obtain ⟨y, hy, rfl⟩ := List.mem_map.1 ((nums_perm z'.c).mem_iff.1 hn)
          exact ⟨(I'.S.coh.num y hy).1, I'.R.pg y hy⟩
        refine JoinN.mk (JoinN.mk ?_)
        refine RangeN nq6 (by omega) (fun i g => Mod (· = h5.size) g6 g ∧ g6.size + 2 ≤ g.size ∧ g[g6.size]? = some (.deferred (some [])) ∧ g[h5.size]? = some (.cells #[.int .i64 i] 3)) (fun _ => False) (fun g e z d => ⟨.of_ext e, by omega, d, (e.block _ nl6).trans n6⟩) (fun i g g' ⟨m, a, b, c⟩ e => ⟨Mod.extIn m e, by have := e.size; omega, (e.block _ (get_some_lt b)).trans b, (e.block _ (get_some_lt c)).trans c⟩) (fun i g ⟨m, _, _, _⟩ => nq6.mod m ?_ ?_) ?_ ?_ (fun g oE oR h => h.elim)
        · have := get_some_lt nq.cell
          omega
        · intro b hb e
          have := nq.row.lt hb
          omega
        · rintro i hi g oR oB J X ⟨m1, m2, m3, m4⟩ l1 hoR hoB hX' hJ
          have hm := hmem _ (List.getElem_mem hi)
          generalize z'.c.nums[i] = x at *
          have hgv : getV [ik x] 0 = .int .i64 x := rfl
          refine ⟨l1, ?_⟩
          have mB := Mod.put g (g6.size + 1) oB
          have lB : (g.setIfInBounds (g6.size + 1) oB)[g6.size + 1]? = some oB := get_put (get_some_lt l1)
          generalize g.setIfInBounds (g6.size + 1) oB = gB at *
          have n4 := (mB.block _ (get_some_lt m4) (by omega)).trans m4
          have q4 := cellOf (i := 0) n4 rfl
          have qf := frzOf (i := 0) n4
          simp (disch := omega) [hgv, q4, qf]
          have mC := Mod.set gB ⟨h5.size, 0, none⟩ (.int .i64 ((i : Int) + 1))
          have n5 : (hset gB ⟨h5.size, 0, none⟩ (.int .i64 ((i : Int) + 1)))[h5.size]? = some (.cells #[.int .i64 ((i + 1 : Nat) : Int)] 3) := obj_set n4
          generalize hset gB ⟨h5.size, 0, none⟩ (.int .i64 ((i : Int) + 1)) = gC at *
          have zB := mB.size
          have zC := mC.size
          have lC := (mC.block _ (get_some_lt lB) (by dsimp only; omega)).trans lB
          refine ⟨by first | exact lC | exact (Array.getElem?_eq_some_iff.1 lC).2, ?_⟩
          have mD := Mod.put gC (g6.size + 1) oR
          have lD : (gC.setIfInBounds (g6.size + 1) oR)[g6.size + 1]? = some oR := get_put (get_some_lt lC)
          generalize gC.setIfInBounds (g6.size + 1) oR = gD at *
          have zD := mD.size
          have d1 := (mB.block _ (get_some_lt m3) (by omega)).trans m3
          have d2 := (mC.block _ (get_some_lt d1) (by dsimp only; omega)).trans d1
          have d3 := (mD.block _ (get_some_lt d2) (by omega)).trans d2
          refine hX' gD ⟨?_, by omega, d3, (mD.block _ (get_some_lt n5) (by omega)).trans n5⟩ lD
          have m12 : Mod (fun b => b = h5.size ∨ b = g6.size + 1) g6 gB := (m1.mono (fun b _ e => Or.inl e)).trans mB (fun b _ e => Or.inr e)
          have m13 : Mod (fun b => b = h5.size ∨ b = g6.size + 1) g6 gC := m12.trans mC (fun b _ e => Or.inl e)
          exact (m13.trans mD (fun b _ e => Or.inr e)).mono (fun b hb e => Or.resolve_right e (by omega))
        · rintro g oE oR ⟨m1, m2, m3, m4⟩ l1 hoR
          have mE := Mod.put g (g6.size + 1) oE
          generalize g.setIfInBounds (g6.size + 1) oE = gE at *
          have zE := mE.size
          have n7 := (mE.block _ (get_some_lt m4) (by omega)).trans m4
          have d7 := (mE.block _ (get_some_lt m3) (by omega)).trans m3
          have mm : Mod (· = h5.size) g6 gE := (((m1.mono (fun b _ e => Or.inl e)).trans mE (fun b _ e => Or.inr e)).mono (fun b hb e => Or.resolve_right e (by omega)))
          have eG : Ext G gE := mm.ext_from (e5.trans e6) (fun b hb e => by have : b = h5.size := e; omega)
          have S7 := I'.S.ext eG
          rw [consD_marks]
          have q7 := cellOf (i := 0) n7 rfl
          refine Counts_c S7.at_.co fun h8 e8 => ?_
          have x8 := ((I'.fr.ext.trans eG).trans e8).block _ hxl
          rw [x0] at x8
          have n8 := (e8.block _ (get_some_lt n7)).trans n7
          have hnle : z'.c.nums.length = z'.c.P.length := by
            have h1 := (nums_perm z'.c).length_eq
            rw [List.length_map] at h1; exact h1
          have i1 := I'.S.at_.co.ok.few
          have i2 := I'.R.room
          have i3 := I'.R.uses
          have i4 := I'.R.writes
          have i5 := I'.R.loads
          have i6 := I'.us
          have i7 := I'.ws
          have z8 := e8.size
          have zf := I'.fr.ext.size
          have hn8 : ¬ h8.size = h5.size := by omega
          have hn8' : ¬ h5.size = h8.size := by omega
          have hn9 : ¬ h.size = h8.size := by omega
          have q8 := cellOf (i := 0) n8 rfl
          have c8 := cellOf (i := 2) x8 rfl
          simp (disch := omega) [hn8, hn8', hn9, q8, c8]
          generalize hg9 : hset _ (⟨h8.size, 3, none⟩ : Addr) _ = g9
          have e9 : Ext h8 g9 := by rw [← hg9]; exact put4_ext (by repeat' (first | (with_reducible exact Ext.refl _) | (with_reducible assumption) | (with_reducible refine push_ext ?_) | (with_reducible refine hset_ext ?_ ?_) | (with_reducible refine Ext.trans ?_ (by assumption)) | omega | (simp; done) | (simp; omega) | (refine Ext.size ?_) | (refine Nat.le_succ_of_le (Ext.size ?_)))) (Nat.le_refl _)
          clear hg9
          have e89 := e8.trans e9
          have hsz := I'.S.at_
          refine hX ⟨z'.i, z'.c, z'.s, z'.p, g6.size :: z.ds, z'.us, z'.ws⟩ _ _ _ _ g9 rfl rfl rfl (by dsimp only; rw [hi']; simp) ⟨by dsimp only; omega, S7.ext e89, I'.fr.go (eG.trans e89), I'.R, fun d hd => ?_, ?_, I'.us, I'.ws⟩ (by dsimp only; omega)
          · rcases List.mem_cons.1 hd with rfl | hd
            · exact ⟨(e89.block _ (get_some_lt d7)).trans d7, fun hF => by have := hsz.lt hF; omega, by omega⟩
            · obtain ⟨a1, a2, a3⟩ := I'.ds d (hds ▸ hd)
              exact ⟨((eG.trans e89).block _ (get_some_lt a1)).trans a1, a2, a3⟩
          · rw [List.nodup_cons]
            refine ⟨fun hd => ?_, hds ▸ I'.nd⟩
            obtain ⟨a1, a2, a3⟩ := I'.ds _ (hds ▸ hd)
            have := get_some_lt a1
            omega
    · have hie : z.i = xs.length := by omega
      simp (disch := omega) [cg3, hie]
      have Sg := I.S
      have lt0 : ∀ b, Ft o z.c z.s b → b < g.size := fun b hb => I.S.at_.lt hb
      refine Counts_c Sg.at_.co fun h5 e5 => ?_
      simp (disch := omega)
      generalize hg6 : hset _ (⟨h5.size, 3, none⟩ : Addr) _ = g6
      have e6 : Ext h5 g6 := by rw [← hg6]; exact put4_ext (by repeat' (first | (with_reducible exact Ext.refl _) | (with_reducible assumption) | (with_reducible refine push_ext ?_) | (with_reducible refine hset_ext ?_ ?_) | (with_reducible refine Ext.trans ?_ (by assumption)) | omega | (simp; done) | (simp; omega) | (refine Ext.size ?_) | (refine Nat.le_succ_of_le (Ext.size ?_)))) (Nat.le_refl _)
      have k6 : g6[h5.size]? = some (.cells #[.int .i64 z.c.hits, .int .i64 z.c.loads, .int .i64 z.c.backs, .int .i64 z.c.flushes] 44) := by rw [← hg6]; exact put4 (get_pushed rfl)
      clear hg6
      have e56 := e5.trans e6
      have z5 := e5.size
      have z6 := e6.size
      have kl6 := get_some_lt k6
      have S6 := Sg.ext e56
      refine flush_s S6 (by omega) fun h7 s7 f rk hf hr u7 S7 => ?_
      obtain ⟨y0, y1, y2, y3⟩ := I.R.flush hf hr I.S.coh.nd
      rw [y0]
      refine num_c ?_
      have nd7 := S7.coh.nd
      generalize (flushC f (z.c, z.p)).1.1 = c7 at *
      generalize (flushC f (z.c, z.p)).1.2 = p7 at *
      simp (disch := omega)
      refine flush_s S7 (by omega) fun h8 s8 f' rk' hf' hr' u8 S8 => ?_
      obtain ⟨w0, w1, w2, w3⟩ := y1.flush hf' hr' nd7
      rw [w0]
      simp (disch := omega)
      refine num_c ?_
      generalize (flushC f' (c7, p7)).1.1 = c8 at *
      generalize (flushC f' (c7, p7)).1.2 = p8 at *
      simp (disch := omega)
      have u78 := u7.trans u8
      have nF : ∀ d, d ∈ z.ds ∨ d = h5.size → ¬ Ft o z.c z.s d := fun d hd hF => by
        rcases hd with hd | rfl
        · exact (I.ds d hd).2.1 hF
        · have := lt0 _ hF; omega
      have k8 := (u78.mod.block _ kl6 (nF _ (.inr rfl))).trans k6
      refine Counts_c S8.at_.co fun h9 e9 => ?_
      have k9 := (e9.block _ (get_some_lt k8)).trans k8
      have z78 := u78.mod.size
      have z9 := e9.size
      have hne : ¬ h9.size = h5.size := by omega
      have hne2 : ¬ h5.size = h9.size := by omega
      have v2 := cellOf (i := 2) k9 rfl
      have v3 := cellOf (i := 3) k9 rfl
      have X8 : Ext h0 h8 := u78.mod.ext_from (I.fr.ext.trans e56) (fun b hb hF => by have := I.fr.fr b hF; omega)
      have zf := I.fr.ext.size
      have x9 := ((X8.trans e9).block _ hxl).trans x0
      have r9 := ((X8.trans e9).block _ hrl).trans r0
      have c9 := cellOf (i := 2) x9 rfl
      have hn9 : ¬ h.size = h9.size := by omega
      have i1 := I.S.at_.co.ok.few
      have i2 := I.R.room
      have i4 := I.R.writes
      have i5 := dN_le z.c
      have j4 := w1.writes
      have b1 := I.S.at_.fl
      have b2 := I.S.ps.2.1
      have b3 := I.S.bud
      have b4 : ((c8.flushes : Nat) : Int) = (z.c.flushes : Int) + 2 := by omega
      simp (disch := omega) [hne, hne2, v2, v3, hn9, c9, b4]
      generalize hg10 : hset _ (⟨h9.size, 3, none⟩ : Addr) _ = g10
      have e10 : Ext h9 g10 := by rw [← hg10]; exact put4_ext (by repeat' (first | (with_reducible exact Ext.refl _) | (with_reducible assumption) | (with_reducible refine push_ext ?_) | (with_reducible refine hset_ext ?_ ?_) | (with_reducible refine Ext.trans ?_ (by assumption)) | omega | (simp; done) | (simp; omega) | (refine Ext.size ?_) | (refine Nat.le_succ_of_le (Ext.size ?_)))) (Nat.le_refl _)
      clear hg10
      refine works_c fun h11 e11 => ?_
      have z10 := e10.size
      have z11 := e11.size
      have r11 := ((e10.trans e11).block _ (get_some_lt r9)).trans r9
      have q11 := cellOf (i := 0) r11 rfl
      have f11 := frzOf (i := 0) r11
      simp (disch := omega) [q11, f11]
      have m12 := Mod.set h11 ⟨h.size + 1, 0, none⟩ (.bool true)
      have r12 : (hset h11 ⟨h.size + 1, 0, none⟩ (.bool true))[h.size + 1]? = some (.cells #[.bool true] boT) := obj_set r11
      have e12 : Ext h (hset h11 ⟨h.size + 1, 0, none⟩ (.bool true)) := hset_ext (e0.trans (X8.trans (e9.trans (e10.trans e11)))) (by simp)
      generalize hset h11 ⟨h.size + 1, 0, none⟩ (.bool true) = g12 at *
      refine RetD_all (fun d hd => ?_) I.nd fun h13 m13 => ?_
      · obtain ⟨a1, a2, a3⟩ := I.ds d hd
        have hl := get_some_lt a1
        have t1 := (e56.block _ hl).trans a1
        have t2 := (u78.mod.block _ (get_some_lt t1) a2).trans t1
        have t3 := ((e9.trans (e10.trans e11)).block _ (get_some_lt t2)).trans t2
        exact (m12.block _ (get_some_lt t3) (by dsimp only; omega)).trans t3
      · have r13 := (m13.block _ (get_some_lt r12) (fun hd => by have := (I.ds _ hd).2.2; omega)).trans r12
        have q13 := cellOf (i := 0) r13 rfl
        simp (disch := omega) [q13]
        exact H _ (m13.ext_from e12 (fun b hb hd => by have := (I.ds _ hd).2.2; omega))
  · simp (disch := omega)
    refine works_c fun h2 e2 => ?_
    have e02 := e1.trans e2
    have rz := (e02.block _ hrl).trans r0
    have cz := cellOf (i := 0) rz rfl
    have fz := frzOf (i := 0) rz
    simp (disch := omega) [cz, fz]
    refine RetD_nil ?_
    have rz2 := obj_set (i := 0) (v := .bool true) rz
    have cz2 := cellOf (i := 0) rz2 rfl
    simp (disch := omega) [cz2]
    exact H _ (hset_ext (e0.trans e02) (by simp))
end Go.Proofs.Ytcbbdnaelimpfaa
namespace Go.Proofs.Ytcbbdnaelimpfaa.cacheRoom
open Go.ChangeShapes Go.WideShapes Go.ChangeAt Go.RowKit Go.Joins Go.Vc

theorem own : ownKnob Try.prog.godebug = none := by kernel_rfl
theorem laidOut : laidOutB Try.prog = true := by kernel_rfl

set_option maxRecDepth 100000 in
set_option maxHeartbeats 1000000 in
theorem lifted (os : Os) (started : os.Started) (H : Type) (enc : TypeId × Value → H) :
    ReturnsInHanded {} Try.checked os 4 .any (Rows.cacheRoomSpec.pre6 enc Try.prog Try.f4 Rows.cacheRoomRow.domain false) (Rows.cacheRoomSpec.post enc Try.prog Try.f4 false true false false) := by
  refine returnsInHanded_of_change (C := Try.checked) own started (by kernel_rfl) Try.func4
    (ChangeSpec.witness6 (enc := enc) (C := Try.checked) false ⟨#[], #[.agg #[.int .i64 0, .int .i64 0, .int .i64 0, .slice none 0 0]], []⟩ 8 (by kernel_rfl) (by kernel_rfl) (by kernel_rfl) (by kernel_rfl)) ?_
  intro W base args ds gs before hval0 hW hcnd _
  have hval : ∀ (j : Nat) t v, Try.f4.params[j]? = some t → args[j]? = some v → Value.okWide Try.prog W .any base t v := hval0
  have hW' := hW
  obtain ⟨p, q, hA0, hV, rfl, hfz, hnd⟩ := hW
  have hA : DataW.TrodAll enc Try.prog W 0 (fun _ => true) true Try.f4.params.toList args.toList ds p := hA0
  rw [Try.params4] at hA hval
  obtain ⟨v0, vs0, d0, ds0, p0, q0, hargs, rfl, rfl, h0, r0⟩ := trodAll_cons hA
  obtain ⟨rfl, rfl, rfl⟩ := trodAll_nil r0
  obtain rfl : args = #[v0] := by cases args; simp_all
  obtain ⟨size, bits, room, u, xs, rfl, hx⟩ := open_calls (hval 0 50 v0 rfl rfl) h0
  refine ((CacheRoom_c (h := W.heap) hx (K := fun v h' => v = .bool true ∧ Ext W.heap h') (fun h' e => ⟨rfl, e⟩)).out W rfl).mono fun e W' ⟨v, he, hs, hv, hx⟩ => ?_
  exact ⟨v, he, hv ▸ law_post laidOut (by kernel_rfl) rfl (tb := 4) (by kernel_rfl) (by kernel_rfl) hW' (fun hg => by rw [hg]; rfl) (below_of hs hx)⟩

theorem proved : Rows.CacheRoomSaid :=
  OpenClaim.holds_of_wide 4 Try.f4 rfl rfl rfl rfl rfl rfl rfl ⟨rfl, rfl, rfl, rfl, rfl⟩ rfl rfl rfl rfl rfl (by kernel_rfl) Try.func4 (by kernel_rfl)
    (of_decide_eq_true (by kernel_rfl)) (by unfold Func.isWrapper; first | (rw [if_pos (by decide +kernel)]; kernel_rfl) | (rw [if_neg (by decide +kernel)]; exact ⟨rfl, rfl⟩))
    (fun os started H enc _ => lifted os started H enc)
end Go.Proofs.Ytcbbdnaelimpfaa.cacheRoom
