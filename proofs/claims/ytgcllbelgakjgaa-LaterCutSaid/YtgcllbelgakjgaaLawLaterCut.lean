/- What is proved: the law palimpsestlaw13.LaterCut returns true for every input, and its arguments read as they did. No conditions. -/
import Derived.Test.YtgcllbelgakjgaaRows
import Derived.Test.YtgcllbelgakjgaaLatE
set_option linter.unusedSimpArgs false
set_option linter.unusedVariables false
namespace Go.Proofs.Ytgcllbelgakjgaa
open Go.Vc
variable {K : Value → Heap → Prop} {h : Heap}

theorem cell_of {b : Nat} {x : Value} {t : Go.TypeId} (hb : h[b]? = some (.cells #[x] t)) : hcell h ⟨b, 0, none⟩ = some x := cellOf hb rfl
theorem meets_le (x : Rn) : ∀ C : List Rn, C.length ≤ 20 → meets x C ≤ 20 * x.len := fun C hC => by
  have h : ∀ C : List Rn, meets x C ≤ C.length * x.len := fun C => by
    induction C with
    | nil => simp [meets]
    | cons c C ih =>
      have e : meets x (c :: C) = meet x c + meets x C := by unfold meets; rw [List.map_cons, List.sum_cons]
      have h2 : meet x c ≤ x.len := by unfold meet Rn.en; omega
      rw [e, List.length_cons, Nat.add_mul, Nat.one_mul]
      omega
  exact Nat.le_trans (h C) (Nat.mul_le_mul_right _ hC)
set_option maxHeartbeats 16000000 in
theorem LaterCut_c {v w : Value} {l cs : List (Int × Int)} (rv : Rws h v l) (rw_ : Rws h w cs) (H : ∀ h', Ext h h' → K (.bool true) h') : CallsH Try.prog 6 #[v, w] h K ⟨⟩ := by
  refine n6_calls ?_
  unfold n6
  obtain ⟨va, vc, rfl, hvc⟩ := rv.form
  obtain ⟨wa, wc, rfl, hwc⟩ := rw_.form
  have hfew := rv.few
  have hfew2 := rw_.few
  simp (disch := omega)
  refine (⟨_, rfl⟩ : ∃ f, f = h.push (.cells #[.bool false] 4)).elim fun h0 eh0 => ?_
  have e0 : Ext h h0 := by rw [eh0]; exact (by repeat' (first | (with_reducible exact Ext.refl _) | (with_reducible assumption) | (with_reducible refine push_ext ?_) | (with_reducible refine hset_ext ?_ ?_) | (with_reducible refine Ext.trans ?_ (by assumption)) | omega | (simp; done) | (simp; omega) | (refine Ext.size ?_) | (refine Nat.le_succ_of_le (Ext.size ?_))))
  have r0 : h0[h.size]? = some (.cells #[.bool false] 4) := by rw [eh0]; exact get_pushed rfl
  rw [show h.push (.cells #[.bool false] 4) = h0 from eh0.symm]
  clear eh0
  have z0 := e0.size
  have hrl := get_some_lt r0
  have out : ∀ g, Ext h0 g → K (.bool true) (hset g ⟨h.size, 0, none⟩ (.bool true)) := fun g e => H _ (hset_ext (e0.trans e) (by simp))
  by_cases h60 : 60 < l.length
  · simp (disch := omega)
    refine works_c fun h1 e1 => ?_
    have rz := (e1.block h.size hrl).trans r0
    have cz := cellOf (i := 0) rz rfl
    have fz := frzOf (i := 0) rz
    simp (disch := omega) [cz, fz]
    refine RetD_nil ?_
    simp (disch := omega) [cz]
    exact out _ e1
  by_cases h20 : 20 < cs.length
  · simp (disch := omega)
    refine works_c fun h1 e1 => ?_
    have rz := (e1.block h.size hrl).trans r0
    have cz := cellOf (i := 0) rz rfl
    have fz := frzOf (i := 0) rz
    simp (disch := omega) [cz, fz]
    refine RetD_nil ?_
    simp (disch := omega) [cz]
    exact out _ e1
  simp (disch := omega)
  refine some_c (rv.ext e0) (by omega) fun v1 h1 o1 e1 f1 => ?_
  have hsl := some_len l
  have r1 := own_rws o1 (by omega) (may_list some_may)
  have hpl := putR_len ((someL l).map rnOf) []
  simp at hpl
  refine New_c r1 (by omega) (fun h2 e2 hn => absurd some_may hn) (fun h2 e2 _ hn => by omega) (fun q s h2 _ a2 e2 f2 => ?_)
  have hpq : ptrV q = .pointer (some ⟨q, 0, none⟩) := rfl
  simp (disch := omega) [hpq]
  refine (⟨_, rfl⟩ : ∃ f, f = hset (Array.push h2 (.cells #[.pointer none] 25)) ⟨h2.size, 0, none⟩ (.pointer (some ⟨q, 0, none⟩))).elim fun g3 eg3 => ?_
  have e3 : Ext h2 g3 := by rw [eg3]; exact (by repeat' (first | (with_reducible exact Ext.refl _) | (with_reducible assumption) | (with_reducible refine push_ext ?_) | (with_reducible refine hset_ext ?_ ?_) | (with_reducible refine Ext.trans ?_ (by assumption)) | omega | (simp; done) | (simp; omega) | (refine Ext.size ?_) | (refine Nat.le_succ_of_le (Ext.size ?_))))
  have b3 : g3[h2.size]? = some (.cells #[ptrV q] 25) := by rw [eg3]; exact (obj_set (get_pushed rfl)).trans (by simp [ptrV])
  rw [show hset (Array.push h2 (.cells #[.pointer none] 25)) ⟨h2.size, 0, none⟩ (.pointer (some ⟨q, 0, none⟩)) = g3 from eg3.symm]
  clear eg3
  have c3 := cell_of b3
  unfold ptrV at c3
  refine num_c ?_
  simp (disch := omega) [c3]
  rw [← hpq]
  refine Copy_c (a2.ext e3) fun p t h4 a4 e4 f4 => ?_
  have hpp : ptrV p = .pointer (some ⟨p, 0, none⟩) := rfl
  simp (disch := omega) [hpp]
  have E4 := (e1.trans e2).trans (e3.trans e4)
  refine some_c (rw_.ext (e0.trans E4)) (by omega) fun v5 h5 o5 e5 f5 => ?_
  have hsc := some_len cs
  have r5 := own_rws o5 (by omega) (may_list some_may)
  have i5 : ∀ x ∈ someL cs, i64 x.1 ∧ i64 x.2 := may_list some_may
  have m5 : ∀ x ∈ someL cs, mayR x := some_may
  have hCl : (someL cs).length ≤ 20 := by omega
  generalize someL cs = C at *
  obtain ⟨ca, cc, rfl, hcc⟩ := r5.form
  simp (disch := omega)
  refine (⟨_, rfl⟩ : ∃ f, f = hset (Array.push h5 (.cells #[.slice none 0 0] rsT)) ⟨h5.size, 0, none⟩ (.slice ca C.length cc)).elim fun g6 eg6 => ?_
  have e6 : Ext h5 g6 := by rw [eg6]; exact (by repeat' (first | (with_reducible exact Ext.refl _) | (with_reducible assumption) | (with_reducible refine push_ext ?_) | (with_reducible refine hset_ext ?_ ?_) | (with_reducible refine Ext.trans ?_ (by assumption)) | omega | (simp; done) | (simp; omega) | (refine Ext.size ?_) | (refine Nat.le_succ_of_le (Ext.size ?_))))
  have b6 : g6[h5.size]? = some (.cells #[.slice ca C.length cc] rsT) := by rw [eg6]; exact (obj_set (get_pushed rfl)).trans (by simp)
  rw [show hset (Array.push h5 (.cells #[.slice none 0 0] 22)) ⟨h5.size, 0, none⟩ (.slice ca C.length cc) = g6 from eg6.symm]
  clear eg6
  have hB := bytes_fit a2.can a2.fitL
  have fitL := a2.fitL
  have canL := a2.can
  have lenL : (putR [] ((someL l).map rnOf)).length ≤ 60 := by omega
  generalize putR [] ((someL l).map rnOf) = L at *
  obtain ⟨hM, fM, pM⟩ := rns_of m5
  have hMl : (C.map rnOf).length = C.length := by simp
  have E56 := e5.trans e6
  have z1 := e1.size
  have z2 := e2.size
  have z3 := e3.size
  have z4 := e4.size
  have z5 := e5.size
  have z6 := e6.size
  have hq2 : ∀ b, foot q s b → b < h2.size := fun b hb => a2.lt hb
  have hq1 : ∀ b, foot q s b → h0.size ≤ b := fun b hb => by have := f2 b hb; omega
  have lb6 := get_some_lt b6
  have lb3 := get_some_lt b3
  have B3 := (E56.block _ (by have := e4.size; omega)).trans ((e4.block _ lb3).trans b3)
  refine loopX1 (α := Nat × Lq) (fun a => .int .i64 a.1) (fun a g => a.1 ≤ C.length ∧ LqAt g q a.2 (cutsR L ((C.map rnOf).take a.1)) ∧ (∀ b, foot q a.2 b → foot q s b ∨ g6.size ≤ b) ∧ Mod (foot q s) g6 g) (fun a => C.length - a.1) (0, s) rfl ⟨by simp, by simpa [cutsR] using a2.ext ((e3.trans e4).trans E56), fun b hb => .inl hb, .refl _ _⟩ ?_
  rintro ⟨i, s'⟩ g ⟨hi, a, hft, mg⟩ X hX
  dsimp only at hi a hft mg hX ⊢
  have nft : ∀ b, h2.size ≤ b → b < g6.size → ¬ foot q s' b := fun b h1 h2 hf => by
    rcases hft b hf with h9 | h9
    · have := hq2 b h9; omega
    · omega
  have nf0 : ∀ b, h2.size ≤ b → ¬ foot q s b := fun b h1 hf => by have := hq2 b hf; omega
  have bg3 := (mg.block _ (by omega) (nf0 _ (Nat.le_refl _))).trans ((e6.block _ (by omega)).trans ((e5.block _ (by omega)).trans ((e4.block _ lb3).trans b3)))
  have bg6 := (mg.block _ lb6 (nf0 _ (by omega))).trans b6
  have k3 := cell_of bg3
  have k6 := cell_of bg6
  unfold ptrV at k3
  have f5' : ∀ b, blkV (.slice ca C.length cc) = some b → ¬ foot q s b := fun b hb hf => by have := f5 b hb; have := hq2 b hf; omega
  have rg := (r5.ext e6).mod mg f5'
  by_cases hin : i < C.length
  · obtain ⟨ad, c', hv', -, d0, d1⟩ := rg.cell hin
    obtain ⟨rfl, -⟩ : ca = some ad ∧ cc = c' := by cases hv'; exact ⟨rfl, rfl⟩
    simp (disch := omega) [k3, k6]
    rw [← hpq]
    refine Size_c a fun h7 e7 => ?_
    have k3 := hcell_ext e7 k3
    have k6 := hcell_ext e7 k6
    have d0 := hcell_ext e7 d0
    have d1 := hcell_ext e7 d1
    simp (disch := omega) [k3, k6, d0, d1]
    have hix := i5 _ (List.getElem_mem hin)
    have hmx := m5 _ (List.getElem_mem hin)
    have hxg : (C.map rnOf)[i]'(by rw [hMl]; exact hin) = rnOf C[i] := by simp
    have htk := cutsR_take (L := L) (C := C.map rnOf) (i := i) (by omega)
    rw [hxg] at htk
    obtain ⟨cC, nC, vC, -⟩ := cutsR_spec (C := (C.map rnOf).take i) (L := L) canL (fun c hc => pM c (List.mem_of_mem_take hc))
    rw [List.length_take] at nC
    have fC := cutsR_fit (C := (C.map rnOf).take i) fitL
    have hxp := pM (rnOf C[i]) (by rw [← hxg]; exact List.getElem_mem _)
    generalize hxe : C[i] = x at *
    generalize cutsR L ((C.map rnOf).take i) = R at *
    have hlr := lessR_len (x := rnOf x) cC
    have hbr := lessR_bytes (x := rnOf x) (l := R)
    have hbR := bytes_fit cC fC
    rw [← hpq]
    refine Over_c (x := x) (a.ext e7) hix (fun h8 e8 hn => absurd hmx hn) (fun h8 e8 _ => ?_)
    have k3 := hcell_ext e8 k3
    have k6 := hcell_ext e8 k6
    have d0 := hcell_ext e8 d0
    have d1 := hcell_ext e8 d1
    simp (disch := omega) [k3, k6, d0, d1]
    rw [← hpq]
    refine Cut_c (x := x) (a.ext (e7.trans e8)) hix (fun h9 e9 hn => absurd hmx hn) (fun h9 e9 _ hn => by omega) (fun s9 h9 _ u9 => ?_)
    have e78 := e7.trans e8
    have E79 := u9.mod
    have zg := mg.size
    have z78 := e78.size
    have n3 := nft h2.size (Nat.le_refl _) (by omega)
    have n6 := nft h5.size (by omega) lb6
    have bh3 := (u9.mod.block _ (by have := get_some_lt bg3; omega) n3).trans ((e78.block _ (get_some_lt bg3)).trans bg3)
    have bh6 := (u9.mod.block _ (by have := get_some_lt bg6; omega) n6).trans ((e78.block _ (get_some_lt bg6)).trans bg6)
    have rh := (rg.ext e78).mod u9.mod (fun b hb hf => nft b (by have := f5 b hb; omega) (by have := r5.lt (by intro e; rw [e] at hin; simp at hin) hb; omega) hf)
    have k3 := cell_of bh3
    have k6 := cell_of bh6
    unfold ptrV at k3
    obtain ⟨ad2, c2', hv2, -, d0, d1⟩ := rh.cell hin
    cases hv2
    rw [hxe] at d0 d1
    simp (disch := omega) [k3, k6, d0, d1]
    rw [← hpq]
    refine Over_c (x := x) u9.st hix (fun h10 e10 hn => absurd hmx hn) (fun h10 e10 _ => ?_)
    rw [over_less]
    have k3 := hcell_ext e10 k3
    have k6 := hcell_ext e10 k6
    simp (disch := omega) [k3, k6]
    rw [← hpq]
    refine Size_c (u9.st.ext e10) fun h11 e11 => ?_
    simp (disch := omega)
    refine num_c ?_
    refine num_c ?_
    simp (disch := omega)
    refine num_c ?_
    simp (disch := omega)
    refine hX (i + 1, s9) _ _ (by simp) ⟨hin, ?_, fun b hb => ?_, ?_⟩ (by dsimp only; omega)
    · dsimp only
      rw [htk]
      exact u9.st.ext (e10.trans e11)
    · rcases u9.foot b hb with h9 | h9
      · exact hft b h9
      · exact .inr (by omega)
    · refine Mod.extIn ((Mod.extIn mg e78).trans u9.mod fun b hb hf => ?_) (e10.trans e11)
      rcases hft b hf with h9 | h9
      · exact h9
      · omega
  · obtain rfl : i = C.length := by omega
    simp (disch := omega) [k6]
    have hpf : ∀ b, foot p t b → g3.size ≤ b := f4
    have hpl2 : ∀ b, foot p t b → b < h4.size := fun b hb => a4.lt hb
    have ap := (a4.ext E56).mod mg (fun b hb hf => by have := hpf b hb; have := hq2 b hf; omega)
    refine All_c ap fun sb sv h7 e7 q7 zb fv => ?_
    unfold seqV
    simp (disch := omega)
    obtain ⟨cC, nC, vC, oC⟩ := cutsR_spec (C := (C.map rnOf).take C.length) (L := L) canL (fun c hc => pM c (List.mem_of_mem_take hc))
    rw [List.take_of_length_le (by omega)] at cC nC vC oC a
    have fC := cutsR_fit (C := C.map rnOf) fitL
    rw [hMl] at nC
    have zg := mg.size
    have z7 := e7.size
    have hnp : ∀ b, foot p t b → ¬ foot q s b := fun b hb hf => by have := hpf b hb; have := hq2 b hf; omega
    have Q0 : LqAt h7 q s' (cutsR L (C.map rnOf)) := a.ext e7
    have b73 := (e7.block _ (get_some_lt bg3)).trans bg3
    have b76 := (e7.block _ (get_some_lt bg6)).trans bg6
    have ap7 := ap.ext e7
    have rg7 := rg.ext e7
    have E07 : Ext h0 h7 := by
      have : Ext h0 g6 := E4.trans E56
      exact (mg.ext_from this (fun b hb hf => by have := hq1 b hf; omega)).trans e7
    have rz7 := (E07.block _ hrl).trans r0
    have nfz : ∀ b, foot q s' b → h0.size ≤ b := fun b hb => by
      rcases hft b hb with h9 | h9
      · exact hq1 b h9
      · omega
    have n3 := nft h2.size (Nat.le_refl _) (by omega)
    have n6 := nft h5.size (by omega) lb6
    have nS : ¬ foot q s' sb := fun hf => by have := a.lt hf; omega
    have nV : ∀ b, blkV sv = some b → ¬ foot q s' b := fun b hb hf => by have := fv b hb; have := a.lt hf; omega
    have nP : ∀ b, foot p t b → ¬ foot q s' b := fun b hb => nft b (by have := hpf b hb; omega) (by have := hpl2 b hb; omega)
    have nC : ∀ b, blkV (.slice ca C.length cc) = some b → C ≠ [] → ¬ foot q s' b := fun b hb hne hf => nft b (by have := f5 b hb; omega) (by have := r5.lt hne hb; omega) hf
    have zh7 : h.size < h7.size := by have := get_some_lt rz7; exact this
    have nR : ¬ foot q s' h.size := fun hf => by have := nfz _ hf; omega
    have nfl : ∀ b, h7.size ≤ b → ¬ foot q s' b := fun b h1 hf => by have := a.lt hf; omega
    refine JoinN_in1 (fun D g8 => D = consD h7.size (.tuple #[]) ∧ g8[h7.size]? = some (.deferred (some [])) ∧ ∃ s8, LqAt g8 q s8 L ∧ Mod (foot q s') h7 g8) (fun kk hkk => ?_) (fun D g8 hD => ?_)
    · refine JoinN.mk ?_
      refine RangeL (L := L) q7 (fun i g => ∃ s8 R, LqAt g q s8 R ∧ Mod (foot q s') h7 g ∧ (∀ b, foot q s8 b → foot q s' b ∨ h7.size + 2 ≤ b) ∧ g[h7.size]? = some (.deferred (some [])) ∧ h7.size + 2 ≤ g.size ∧ (∀ p, Cov (cutsR L (C.map rnOf)) p → Cov R p) ∧ (∀ p, Cov R p → Cov L p) ∧ (∀ p, Cov (L.take i) p → Cov R p) ∧ R.length ≤ 80 + i) (fun _ => False) ?_ ?_ ?_ ?_ ?_ (fun g oE oR h9 => h9.elim)
      · intro g9 e9 z9 d9
        exact ⟨s', _, Q0.ext e9, .of_ext e9, fun b hb => .inl hb, d9, by omega, fun p h => h, vC, fun p h => absurd h (by simp [Cov]), by omega⟩
      · rintro i g9 g' ⟨s8, R, q8, m8, f8, d8, z8, r1, r2, r3, r4⟩ e9
        exact ⟨s8, R, q8.ext e9, Mod.extIn m8 e9, f8, (e9.block _ (get_some_lt d8)).trans d8, by have := e9.size; omega, r1, r2, r3, r4⟩
      · rintro i g9 ⟨s8, R, q8, m8, f8, d8, z8, r1, r2, r3, r4⟩
        exact q7.mod m8 nS nV
      · rintro i hi g9 oR oB J X ⟨s8, R, q8, m8, f8, d8, z8, r1, r2, r3, r4⟩ hl9 hoR hoB hX hJ
        have hgv : getV [rwA (rnP L[i])] 0 = .agg #[.int .i64 (L[i].at_ : Nat), .int .i64 (L[i].len : Nat)] := rfl
        rw [hgv]
        clear hgv
        have hfx := fitL _ (List.getElem_mem hi)
        have hxL : L[i] ∈ L := List.getElem_mem hi
        have hpx := canL.pos _ hxL
        have htk : ∀ p, Cov (L.take (i + 1)) p ↔ Cov (L.take i) p ∨ (L[i].at_ ≤ p ∧ p < L[i].en) := fun p => by
          rw [List.take_succ_eq_append_getElem hi, Cov.app, Cov.cons]
          exact ⟨fun h => h.imp (fun h => h) (fun h => h.resolve_right Cov.nil), fun h => h.imp (fun h => h) .inl⟩
        generalize L[i] = x at *
        have hll := get_some_lt hl9
        unfold Rn.en at hfx
        simp (disch := omega)
        refine (⟨_, rfl⟩ : ∃ f, f = hset (hset (Array.push g9 (.cells #[.int .i64 0, .int .i64 0] runT)) ⟨g9.size, 0, none⟩ (.int .i64 (x.at_ : Nat))) ⟨g9.size, 1, none⟩ (.int .i64 (x.len : Nat))).elim fun gy egy => ?_
        have ey : Ext g9 gy := by rw [egy]; exact (by repeat' (first | (with_reducible exact Ext.refl _) | (with_reducible assumption) | (with_reducible refine push_ext ?_) | (with_reducible refine hset_ext ?_ ?_) | (with_reducible refine Ext.trans ?_ (by assumption)) | omega | (simp; done) | (simp; omega) | (refine Ext.size ?_) | (refine Nat.le_succ_of_le (Ext.size ?_))))
        have by_ : gy[g9.size]? = some (.cells #[.int .i64 (x.at_ : Nat), .int .i64 (x.len : Nat)] runT) := by
          rw [egy]
          refine (obj_set (obj_set (get_pushed rfl))).trans ?_
          simp
        rw [show hset (hset (Array.push g9 (.cells #[.int .i64 0, .int .i64 0] 24)) ⟨g9.size, 0, none⟩ (.int .i64 (x.at_ : Nat))) ⟨g9.size, 1, none⟩ (.int .i64 (x.len : Nat)) = gy from egy.symm]
        clear egy
        refine ⟨(ey.block _ hll).trans hl9, ?_⟩
        have mB := Mod.put gy (h7.size + 1) oB
        refine (⟨_, rfl⟩ : ∃ f, f = gy.setIfInBounds (h7.size + 1) oB).elim fun gB egB => ?_
        rw [← egB] at mB ⊢
        have lB : gB[h7.size + 1]? = some oB := by rw [egB, get_put2 (by have := ey.size; omega), if_pos rfl]
        clear egB
        have M7 : Mod (fun b => foot q s' b ∨ b = h7.size + 1) h7 gB := (Mod.extIn (m8.mono fun b _ e => .inl e) ey).trans mB (fun b _ e => .inr e)
        have zy := ey.size
        have zB := mB.size
        have bb3 := (M7.block _ (get_some_lt b73) (fun e => e.elim n3 (fun e => by have := get_some_lt b73; omega))).trans b73
        have bb6 := (M7.block _ (get_some_lt b76) (fun e => e.elim n6 (fun e => by have := get_some_lt b76; omega))).trans b76
        have bby := (mB.block _ (get_some_lt by_) (by omega)).trans by_
        have nq8 : ∀ b, foot q s8 b → b ≠ h7.size + 1 := fun b hb e => by
          rcases f8 b hb with h9 | h9
          · exact nfl _ (by omega) h9
          · omega
        have qB := (q8.ext ey).mod mB nq8
        have k3 := cell_of bb3
        unfold ptrV at k3
        have y0 := cellOf (i := 0) bby rfl
        have y1 := cellOf (i := 1) bby rfl
        simp (disch := omega) [k3, y0, y1]
        have hx2 : i64 (rnP x).1 ∧ i64 (rnP x).2 := by unfold rnP i64; dsimp only; omega
        have hmx : mayR (rnP x) := by unfold rnP mayR; dsimp only; omega
        have hofx : rnOf (rnP x) = x := by unfold rnOf rnP; simp
        refine Over_c (x := rnP x) qB hx2 (fun h10 e10 hn => absurd hmx hn) (fun h10 e10 _ => ?_)
        rw [hofx]
        have o1 := over_le (x := x) qB.can
        have o2 := over_own canL hxL
        have o3 := oC x
        have o4 := over_mono (x := x) cC qB.can r1
        simp (disch := omega)
        refine loopX2 (α := Nat) (fun k => .int .i64 (meets x ((C.map rnOf).take k) : Nat)) (fun k => .int .i64 k) (fun k g => k ≤ C.length ∧ g = h10) (fun k => C.length - k) 0 ⟨by simp [meets], rfl⟩ ⟨by omega, rfl⟩ ?_
        rintro k g10 ⟨hk, rfl⟩ Y hY
        have k6 := hcell_ext e10 (cell_of bb6)
        have y0 := hcell_ext e10 y0
        have y1 := hcell_ext e10 y1
        have k3 := hcell_ext e10 k3
        have hml := meets_le x ((C.map rnOf).take k) (by rw [List.length_take]; omega)
        by_cases hkC : k < C.length
        · have hCne : C ≠ [] := by intro e; rw [e] at hkC; simp at hkC
          have rB := ((rg7.mod M7 (fun b hb e => e.elim (nC b hb hCne) (fun e => by have := r5.lt hCne hb; omega)))).ext e10
          obtain ⟨ad3, c3', hv3, -, d0, d1⟩ := rB.cell hkC
          cases hv3
          have hmc := rn_of (m5 _ (List.getElem_mem hkC))
          have htk2 := meets_take (x := x) (C := C.map rnOf) (i := k) (by omega)
          have hml2 := meets_le x ((C.map rnOf).take (k + 1)) (by rw [List.length_take]; omega)
          rw [List.getElem_map] at htk2
          obtain ⟨hc1, hc2, hc3, hc4⟩ := hmc
          have hd0 : C[k].1 = ((rnOf C[k]).at_ : Int) := (congrArg Prod.fst hc1).symm
          have hd1 : C[k].2 = ((rnOf C[k]).len : Int) := (congrArg Prod.snd hc1).symm
          rw [hd0] at d0
          rw [hd1] at d1
          generalize rnOf C[k] = c at *
          unfold Rn.en at hc4
          simp (disch := omega) [k6, y0, y1, d0, d1, Hp_min2, Hp_max2]
          refine hY (k + 1) _ _ _ ?_ (by simp) ⟨hkC, rfl⟩ (by omega)
          rw [htk2]
          congr 1
          unfold meet Rn.en
          push_cast
          (repeat' split) <;> omega
        · obtain rfl : k = C.length := by omega
          rw [List.take_of_length_le (by omega)] at hml ⊢
          simp (disch := omega) [k6]
          refine num_c ?_
          simp (disch := omega) [k3, y0, y1]
          rw [← hpq]
          have e11 : Ext g10 (g10.push (.cells #[.int .i64 (x.at_ : Nat), .int .i64 (x.len : Nat)] runT)) := (by repeat' (first | (with_reducible exact Ext.refl _) | (with_reducible assumption) | (with_reducible refine push_ext ?_) | (with_reducible refine hset_ext ?_ ?_) | (with_reducible refine Ext.trans ?_ (by assumption)) | omega | (simp; done) | (simp; omega) | (refine Ext.size ?_) | (refine Nat.le_succ_of_le (Ext.size ?_))))
          have r11 : Rws (g10.push (.cells #[.int .i64 (x.at_ : Nat), .int .i64 (x.len : Nat)] runT)) (.slice (some ⟨g10.size, 0, none⟩) 1 1) [rnP x] := rws_new1 (x := rnP x) hx2
          have hm1 : ∀ y ∈ [rnP x], mayR y := fun y hy => by simp at hy; subst hy; exact hmx
          have q10 := qB.ext e10
          have hpR : putR R ([rnP x].map rnOf) = insR R x := by simp only [List.map_cons, List.map_nil, hofx]; rfl
          have hlR := insR_len R x
          refine Put_c (q10.ext e11) r11 (by simp) (fun _ b hb hf => by have h8 := q10.lt hf; have h9 : some g10.size = some b := hb; cases h9; exact Nat.lt_irrefl _ h8) (fun h12 e12 hn => absurd hm1 hn) (fun h12 e12 _ hn => by rw [hpR] at hn; omega) (fun s12 h12 _ u12 => ?_)
          rw [hpR] at u12 ⊢
          simp (disch := omega)
          refine num_c ?_
          simp (disch := omega)
          have z10 := e10.size
          have z11 := e11.size
          have l11 := (e11.block _ (by have := get_some_lt lB; omega)).trans ((e10.block _ (get_some_lt lB)).trans lB)
          have l12 := (u12.mod.block _ (get_some_lt l11) (fun hf => nq8 _ hf rfl)).trans l11
          refine ⟨l12, ?_⟩
          have mE := Mod.put h12 (h7.size + 1) oR
          have z12 := u12.mod.size
          refine (⟨_, rfl⟩ : ∃ f, f = h12.setIfInBounds (h7.size + 1) oR).elim fun gE egE => ?_
          rw [← egE] at mE ⊢
          have lE : gE[h7.size + 1]? = some oR := by rw [egE, get_put2 (get_some_lt l12), if_pos rfl]
          clear egE
          have f12 : ∀ b, foot q s12 b → foot q s' b ∨ h7.size + 2 ≤ b := fun b hb => by
            rcases u12.foot b hb with h9 | h9
            · exact f8 b h9
            · exact .inr (Nat.le_trans (Nat.le_trans (by omega : h7.size + 2 ≤ g10.size) z11) h9)
          have zz12 : h7.size + 2 ≤ h12.size := Nat.le_trans (Nat.le_trans (by omega : h7.size + 2 ≤ g10.size) z11) z12
          have M12 : Mod (fun b => foot q s' b ∨ b = h7.size + 1) h7 h12 := (Mod.extIn M7 (e10.trans e11)).trans u12.mod (fun b hb hf => .inl ((f8 b hf).resolve_right (by omega)))
          have ME : Mod (fun b => foot q s' b ∨ b = h7.size + 1) h7 gE := M12.trans mE (fun b _ e => .inr e)
          refine hX gE ⟨s12, insR R x, u12.st.mod mE (fun b hb e => ?_), ME.mono (fun b hb e => e.resolve_right (by omega)), f12, ?_, by have := mE.size; omega, fun p hp => insR_cov.2 (.inl (r1 p hp)), fun p hp => ?_, fun p hp => ?_, by omega⟩ lE
          · have e' : b = h7.size + 1 := e
            rcases f12 b hb with h9 | h9
            · exact nfl b (by omega) h9
            · omega
          · have d8' := (ey.block _ (get_some_lt d8)).trans d8
            have dB := (mB.block _ (get_some_lt d8') (by omega)).trans d8'
            have d11 := (e11.block _ (by have := get_some_lt dB; omega)).trans ((e10.block _ (get_some_lt dB)).trans dB)
            have d12 := (u12.mod.block _ (get_some_lt d11) (fun hf => (f8 _ hf).elim (nfl _ (Nat.le_refl _)) (fun h9 => by omega))).trans d11
            exact (mE.block _ (get_some_lt d12) (by omega)).trans d12
          · rcases insR_cov.1 hp with h9 | h9
            · exact r2 p h9
            · exact ⟨x, hxL, h9⟩
          · rcases (htk p).1 hp with h9 | h9
            · exact insR_cov.2 (.inl (r3 p h9))
            · exact insR_cov.2 (.inr h9)
      · rintro g9 oE oR ⟨s8, R, q8, m8, f8, d8, z8, r1, r2, r3, r4⟩ hl9 hoR
        have hR : R = L := can_eq q8.can canL (fun p => ⟨r2 p, fun hp => r3 p (by rw [List.take_length]; exact hp)⟩)
        subst hR
        have mE := Mod.put g9 (h7.size + 1) oE
        refine hkk _ _ ⟨rfl, (mE.block _ (get_some_lt d8) (by omega)).trans d8, s8, q8.mod mE (fun b hb e => ?_), (m8.trans mE (fun b hb e => by have e' : b = h7.size + 1 := e; omega))⟩
        have e' : b = h7.size + 1 := e
        rcases f8 b hb with h9 | h9
        · exact nfl b (by omega) h9
        · omega
    · obtain ⟨rfl, hD, s8, q8, m8⟩ := hD
      have bb3 := (m8.block _ (get_some_lt b73) n3).trans b73
      have k3 := cell_of bb3
      unfold ptrV at k3
      simp (disch := omega) [k3]
      rw [← hpq]
      have p8 := ap7.mod m8 nP
      refine Same_c q8 p8 fun h9 e9 => ?_
      rw [decide_eq_true rfl]
      simp (disch := omega)
      refine works_c fun h10 e10 => ?_
      have e90 := e9.trans e10
      have rz := (e90.block _ (by have := m8.size; omega)).trans ((m8.block _ (get_some_lt rz7) nR).trans rz7)
      have cz := cellOf (i := 0) rz rfl
      have fz := frzOf (i := 0) rz
      have dz := (e90.block _ (get_some_lt hD)).trans hD
      simp (disch := omega) [cz, fz]
      have dz2 : (hset h10 ⟨h.size, 0, none⟩ (.bool true))[h7.size]? = some (.deferred (some [])) := (get_hset' (by omega)).trans dz
      refine RetD_one' dz2 ?_
      have m9 := Mod.put (hset h10 ⟨h.size, 0, none⟩ (.bool true)) h7.size (.deferred none)
      have rz9 := (m9.block h.size (by rw [hset_size]; exact get_some_lt rz) (by omega)).trans (obj_set (i := 0) (v := .bool true) rz)
      have cz9 := cellOf (i := 0) rz9 rfl
      simp (disch := omega) [cz9]
      have E10 : Ext h h10 := (m8.ext_from (e0.trans E07) (fun b hb hf => by have := nfz b hf; omega)).trans e90
      exact H _ (m9.ext_from (hset_ext E10 (by simp)) (fun b hb e => by have e' : b = h7.size := e; omega))
end Go.Proofs.Ytgcllbelgakjgaa
namespace Go.Proofs.Ytgcllbelgakjgaa.laterCut
open Go.ChangeShapes Go.WideShapes Go.ChangeAt Go.RowKit Go.Joins Go.Vc

theorem own : ownKnob Try.prog.godebug = none := by kernel_rfl
theorem laidOut : laidOutB Try.prog = true := by kernel_rfl

set_option maxRecDepth 100000 in
set_option maxHeartbeats 1000000 in
theorem lifted (os : Os) (started : os.Started) (H : Type) (enc : TypeId × Value → H) :
    ReturnsInHanded {} Try.checked os 6 .any (Rows.laterCutSpec.pre6 enc Try.prog Try.f6 Rows.laterCutRow.domain false) (Rows.laterCutSpec.post enc Try.prog Try.f6 false true false false) := by
  refine returnsInHanded_of_change (C := Try.checked) own started (by kernel_rfl) Try.func6
    (ChangeSpec.witness6 (enc := enc) (C := Try.checked) false ⟨#[], #[.slice none 0 0, .slice none 0 0], []⟩ 8 (by kernel_rfl) (by kernel_rfl) (by kernel_rfl) (by kernel_rfl)) ?_
  intro W base args ds gs before hval0 hW hcnd _
  have hval : ∀ (j : Nat) t v, Try.f6.params[j]? = some t → args[j]? = some v → Value.okWide Try.prog W .any base t v := hval0
  have hW' := hW
  obtain ⟨p, q, hA0, hV, rfl, hfz, hnd⟩ := hW
  have hA : DataW.TrodAll enc Try.prog W 0 (fun _ => true) true Try.f6.params.toList args.toList ds p := hA0
  rw [Try.params6] at hA hval
  obtain ⟨v0, vs0, d0, ds0, p0, q0, hargs, rfl, rfl, h0, r0⟩ := trodAll_cons hA
  obtain ⟨v1, vs1, d1, ds1, p1, q1, rfl, rfl, rfl, h1, r1⟩ := trodAll_cons r0
  obtain ⟨rfl, rfl, rfl⟩ := trodAll_nil r1
  obtain rfl : args = #[v0, v1] := by cases args; simp_all
  obtain ⟨l, hl⟩ := open_runs (hval 0 22 v0 rfl rfl) h0
  obtain ⟨cs, hcs⟩ := open_runs (hval 1 22 v1 rfl rfl) h1
  refine ((LaterCut_c (h := W.heap) hl hcs (K := fun v h' => v = .bool true ∧ Ext W.heap h') (fun h' e => ⟨rfl, e⟩)).out W rfl).mono fun e W' ⟨v, he, hs, hv, hx⟩ => ?_
  exact ⟨v, he, hv ▸ law_post laidOut (by kernel_rfl) rfl (tb := 4) (by kernel_rfl) (by kernel_rfl) hW' (fun hg => by rw [hg]; rfl) (below_of hs hx)⟩

theorem proved : Rows.LaterCutSaid :=
  OpenClaim.holds_of_wide 6 Try.f6 rfl rfl rfl rfl rfl rfl rfl ⟨rfl, rfl, rfl, rfl, rfl⟩ rfl rfl rfl rfl rfl (by kernel_rfl) Try.func6 (by kernel_rfl)
    (of_decide_eq_true (by kernel_rfl)) (by unfold Func.isWrapper; first | (rw [if_pos (by decide +kernel)]; kernel_rfl) | (rw [if_neg (by decide +kernel)]; exact ⟨rfl, rfl⟩))
    (fun os started H enc _ => lifted os started H enc)
end Go.Proofs.Ytgcllbelgakjgaa.laterCut
