/- The document's store: crashed. A store has the document's files. -/
import Derived.Test.YtdmcaaojapcbcaaRfsB
import Derived.Test.YtdmcaaojapcbcaaStoG
set_option linter.unusedSimpArgs false
set_option linter.unusedVariables false
namespace Go.Proofs.Ytdmcaaojapcbcaa
open Go.Vc
variable {K : Value → Heap → Prop} {h : Heap}

theorem npc_append (a b : List Fl) : npc (a ++ b) = npc a + npc b := by unfold npc; rw [List.map_append, List.sum_append]
theorem npc_take (l : List Rf) {i : Nat} (hi : i < l.length) : npc ((l.take (i + 1)).map (·.f)) = npc ((l.take i).map (·.f)) + l[i].f.ps.length := by
  rw [List.take_succ_eq_append_getElem hi, List.map_append, npc_append]
  simp [npc]
theorem npc_le (l : List Rf) (i : Nat) : npc ((l.take i).map (·.f)) ≤ npc (l.map (·.f)) := by
  have h1 : l.map (·.f) = (l.take i).map (·.f) ++ (l.drop i).map (·.f) := by rw [← List.map_append, List.take_append_drop]
  rw [h1, npc_append]; omega
theorem Rs.pend_npc (r : Rs) : r.pend = npc (r.X.map (·.f)) := by unfold Rs.pend npc; rw [List.map_map]; rfl
theorem crashAll_names : ∀ (ks : List Int) (fs : List Fl), (crashAll ks fs).map (·.name) = fs.map (·.name)
  | ks, [] => rfl
  | ks, f :: fs => by rw [crashAll, List.map_cons, List.map_cons, crashAll_names]; rfl
set_option maxHeartbeats 8000000 in
theorem rCrash_c {p : Nat} {r : Rs} {v : Value} {ks : List Int} (a : RsAt h p r) (hpd : r.pend ≤ 100000000000) (hk : Its h v ks) (hpos : ∀ k ∈ ks, 0 ≤ k)
    (H : ∀ h' p' r', Ext h h' → RsAt h' p' r' → r'.X.map (·.f) = crashAll ks (r.X.map (·.f)) → (∀ b, r'.foot p' b → h.size ≤ b) → K (.tuple #[ptrV p', .int .i64 0]) h') :
    CallsH Try.prog 36 #[ptrV p, v] h K ⟨⟩ := by
  refine n36_calls ?_
  unfold n36
  obtain ⟨va, vc, rfl, hvc⟩ := hk.form
  have hfew := hk.few
  refine loopX1 (α := Nat) (fun i => .int .i64 i) (fun i g => i ≤ ks.length ∧ h = g) (fun i => ks.length - i) 0 rfl ⟨Nat.zero_le _, rfl⟩ ?_
  rintro i g ⟨hi, rfl⟩ X hX
  by_cases hik : i < ks.length
  · obtain ⟨ad, c', hv, hc', hseg⟩ := hk.seg (fun e => by rw [e] at hik; simp at hik)
    cases hv
    have r1 : hcell h (elt ad i) = some (.int .i64 ks[i]) := by rw [hseg i (by simpa using hik)]; simp [inV]
    have hkp := hpos _ (List.getElem_mem hik)
    have hkp' : ¬ ks[i] < 0 := by omega
    simp (disch := omega) [r1, hkp']
    exact hX (i + 1) _ _ (by simp) ⟨hik, rfl⟩ (by omega)
  clear hX
  simp (disch := omega)
  refine (⟨_, rfl⟩ : ∃ f, f = h.push (.cells #[.slice none 0 0, .slice none 0 0, .int .i64 0] rsT)).elim fun h0 eh0 => ?_
  have e0 : Ext h h0 := by rw [eh0]; exact (by repeat' (first | (with_reducible exact Ext.refl _) | (with_reducible assumption) | (with_reducible refine push_ext ?_) | (with_reducible refine hset_ext ?_ ?_) | (with_reducible refine Ext.trans ?_ (by assumption)) | omega | (simp; done) | (simp; omega) | (refine Ext.size ?_) | (refine Nat.le_succ_of_le (Ext.size ?_))))
  have q0 : h0[h.size]? = some (.cells #[.slice none 0 0, .slice none 0 0, .int .i64 (0 : Nat)] rsT) := by rw [eh0]; exact get_pushed rfl
  rw [show h.push (.cells #[.slice none 0 0, .slice none 0 0, .int .i64 0] 92) = h0 from eh0.symm]
  clear eh0
  have hpn := a.few
  have hnp := r.pend_npc
  refine loopX2 (α := Nat × Rs × Nat) (fun a => .int .i64 (a.2.2 : Nat)) (fun a => .int .i64 a.1) (fun a g => a.1 ≤ r.X.length ∧ Ext h g ∧ RsAt g h.size a.2.1 ∧ a.2.1.X.map (·.f) = crashAll ks ((r.X.take a.1).map (·.f)) ∧ (∀ b, a.2.1.foot h.size b → h.size ≤ b) ∧ a.2.1.steps = 0 ∧ a.2.2 = npc ((r.X.take a.1).map (·.f))) (fun a => r.X.length - a.1) (0, ⟨[], 0, .slice none 0 0⟩, 0) ⟨rfl, rfl⟩
    ⟨Nat.zero_le _, e0, ⟨q0, .nil, fun x hx => (by cases hx), fun x hx => (by cases hx), fun x hx => (by cases hx), Nat.zero_le _, Nat.zero_lt_of_lt (show 0 < 1000000 by decide), fun x hx => (by cases hx), .nil⟩, rfl, fun b hb => hb.elim (fun e => by omega) (fun e => by cases e), rfl, rfl⟩ ?_
  rintro ⟨i, r', N⟩ g ⟨hi, eg, a', hX', hlo, hst, hN⟩ X hX
  dsimp only at hi a' hX' hlo hst hN hX ⊢
  have ag := a.ext eg
  have c0 := cellOf (i := 0) ag.cells rfl
  by_cases hil : i < r.X.length
  · obtain ⟨bb, o, c, hsv, hsc, hbb, r0, r1, r2, -, -, -⟩ := ag.cellB (i := i) hil
    have c0' : hcell g ⟨p, 0, none⟩ = some (.slice (some ⟨bb, o, none⟩) r.X.length c) := hsv ▸ c0
    have hxm := List.getElem_mem hil
    have ox := ag.ps _ hxm
    have hok := a.ok _ hxm
    have hxn := a.names _ hxm
    have hpf := a.pfew _ hxm
    have hstp := a.stp
    have hnt := npc_take r.X hil
    have hnl := npc_le r.X (i + 1)
    rw [← hN] at hnt
    obtain ⟨pa, pn, pc, hpv, hpl, hpc, hpne⟩ := ox.form
    rw [rpV_len] at hpl
    obtain rfl : pn = r.X[i].f.ps.length := by omega
    rw [hpv] at r2 ox
    have hfn : ((r.X.take (i + 1)).map (·.f)) = (r.X.take i).map (·.f) ++ [r.X[i].f] := by rw [List.take_succ_eq_append_getElem hil, List.map_append]; rfl
    have hgt : r.X[i] ∈ r.X := hxm
    generalize hxe : r.X[i] = x at *
    have hlast := hok.few
    unfold ptrV
    simp (disch := omega) [c0', elt_mk, r0, r1, r2]
    refine (⟨_, rfl⟩ : ∃ f, f = hset (hset (hset (g.push (.cells #[str [], str [], .slice none 0 0] rfT)) ⟨g.size, 0, none⟩ (str x.f.name)) ⟨g.size, 1, none⟩ (str x.f.last)) ⟨g.size, 2, none⟩ (.slice pa x.f.ps.length pc)).elim fun g0 eg0 => ?_
    have e1 : Ext g g0 := by rw [eg0]; exact (by repeat' (first | (with_reducible exact Ext.refl _) | (with_reducible assumption) | (with_reducible refine push_ext ?_) | (with_reducible refine hset_ext ?_ ?_) | (with_reducible refine Ext.trans ?_ (by assumption)) | omega | (simp; done) | (simp; omega) | (refine Ext.size ?_) | (refine Nat.le_succ_of_le (Ext.size ?_))))
    have q1 : g0[g.size]? = some (.cells #[str x.f.name, str x.f.last, .slice pa x.f.ps.length pc] rfT) := by
      rw [eg0]; exact obj_set (obj_set (obj_set (get_pushed rfl)))
    rw [show hset (hset (hset (g.push (.cells #[str [], str [], .slice none 0 0] 99)) ⟨g.size, 0, none⟩ (str x.f.name)) ⟨g.size, 1, none⟩ (str x.f.last)) ⟨g.size, 2, none⟩ (.slice pa x.f.ps.length pc) = g0 from eg0.symm]
    clear eg0
    have w0 := cellOf (i := 0) q1 rfl
    have w1 := cellOf (i := 1) q1 rfl
    have w2 := cellOf (i := 2) q1 rfl
    refine loopX3 (α := Nat) (fun j => .int .i64 (N + j : Nat)) (fun j => str (layAll x.f.last (picked (ks.drop N) (x.f.ps.take j)))) (fun j => .int .i64 j) (fun j g1 => j ≤ x.f.ps.length ∧ g0 = g1) (fun j => x.f.ps.length - j) 0 ⟨by simp, by
      have : picked (ks.drop N) (x.f.ps.take 0) = [] := by rw [List.take_zero]; cases (ks.drop N) <;> rfl
      rw [this]; rfl, rfl⟩ ⟨Nat.zero_le _, rfl⟩ ?_
    rintro j g1 ⟨hj, rfl⟩ Y hY
    by_cases hjl : j < x.f.ps.length
    · obtain ⟨ad', rfl, -, -, t0, t1⟩ := rp_cell (ox.ext e1) hjl
      have hqk := hok.pc _ (List.getElem_mem hjl)
      have hfit : x.f.ps[j].at_ + x.f.ps[j].b.length ≤ x.f.last.length := hqk.2
      have hlay : (layAll x.f.last (picked (ks.drop N) (x.f.ps.take j))).length = x.f.last.length := layAll_len fun q hq => (hok.pc q (List.mem_of_mem_take (picked_sub hq))).2
      have hps := picked_snoc (ks := ks.drop N) (ps := x.f.ps) (j := j) hjl
      rw [List.drop_drop] at hps
      have hcast : ((N + j : Nat) : Int) = (N : Int) + (j : Int) := by omega
      have fin : ∀ w1 w2 w3, w1 = .int .i64 ((N : Int) + (j : Int) + 1) → w2 = str (layAll x.f.last (picked (ks.drop N) (x.f.ps.take (j + 1)))) → w3 = .int .i64 ((j : Int) + 1) → Y w1 w2 w3 g0 := fun w1 w2 w3 h1 h2 h3 => hY (j + 1) _ _ _ _ (by rw [h1]; congr 1) h2 (by rw [h3]; simp) ⟨hjl, rfl⟩ (by omega)
      rw [hcast]
      simp (disch := omega) [w2]
      refine JoinN.mk ?_
      by_cases hkl : N + j < ks.length
      · have hdk : ks.drop (N + j) = ks[N + j] :: ks.drop (N + j + 1) := List.drop_eq_getElem_cons hkl
        rw [hdk] at hps
        obtain ⟨ad, c', hv, hc', hseg⟩ := (hk.ext (eg.trans e1)).seg (fun e => by rw [e] at hkl; simp at hkl)
        have hva : va = some ad := by cases hv; rfl
        subst hva
        have y1 : hcell g0 (elt ad (N + j)) = some (.int .i64 ks[N + j]) := by rw [hseg (N + j) (by simpa using hkl)]; simp [inV]
        have hkp := hpos _ (List.getElem_mem hkl)
        have hko := hk.ok _ (List.getElem_mem hkl)
        have htn : ((N : Int) + (j : Int)).toNat = N + j := by omega
        by_cases hodd : ks[N + j] % 2 = 1
        · simp only [pickB, hodd, decide_true, if_true] at hps
          simp (disch := omega) [w2, htn, y1, hodd, t0, t1]
          refine over_c (by omega) (by omega) ?_
          simp (disch := omega)
          refine fin _ _ _ rfl ?_ rfl
          rw [hps, layAll_append]; rfl
        · simp only [pickB, hodd, decide_false, if_false, Bool.false_eq_true] at hps
          simp (disch := omega) [w2, htn, y1, hodd]
          refine fin _ _ _ rfl ?_ rfl
          rw [hps, List.append_nil]
      · have hdk : ks.drop (N + j) = [] := List.drop_eq_nil_of_le (by omega)
        rw [hdk] at hps
        simp only [pickB, if_false, Bool.false_eq_true, List.append_nil] at hps
        simp (disch := omega) [w2]
        refine fin _ _ _ rfl ?_ rfl
        rw [hps]
    · obtain rfl : j = x.f.ps.length := by omega
      rw [List.take_length]
      have hcf : layAll x.f.last (picked (ks.drop N) x.f.ps) = (x.f.crash (ks.drop N)).last := rfl
      rw [hcf]
      obtain ⟨xa, xc, hxv, hxc⟩ := a'.form
      have a0 := a'.ext e1
      have k0' : hcell g0 ⟨h.size, 0, none⟩ = some (.slice xa r'.X.length xc) := hxv ▸ cellOf (i := 0) a0.cells rfl
      have hx9 := a'.few
      have hxl9 : r'.X.length = i := by
        have := congrArg List.length hX'
        rw [crashAll_len] at this
        simp at this; omega
      have o0 := a0.fs
      rw [hxv] at o0
      have hq0 := get_some_lt a0.cells
      have e2 : Ext g0 (g0.push (.cells #[str x.f.name, str (x.f.crash (ks.drop N)).last, .slice none 0 0] rfT)) := (by repeat' (first | (with_reducible exact Ext.refl _) | (with_reducible assumption) | (with_reducible refine push_ext ?_) | (with_reducible refine hset_ext ?_ ?_) | (with_reducible refine Ext.trans ?_ (by assumption)) | omega | (simp; done) | (simp; omega) | (refine Ext.size ?_) | (refine Nat.le_succ_of_le (Ext.size ?_))))
      simp (disch := omega) [w0, w2, k0']
      refine Hp_appendG (e := rfT) (s := 3) (by_ := 56) (n := r'.X.length) (k := 1) (news := [str x.f.name, str (x.f.crash (ks.drop N)).last, .slice none 0 0]) (by kernel_rfl) (by kernel_rfl) (o0.ext e2) (by rw [rfV_len]) (by omega) (Src_new (vs := [str x.f.name, str (x.f.crash (ks.drop N)).last, .slice none 0 0]) rfl) (by simp [one, str]) (by omega) (by omega) fun v2 g5 o5 m5 f5 _ => ?_
      have z1 := e1.size
      have z2 := e2.size
      have e12 := e1.trans e2
      have m5' : Ext h g5 := m5.ext_from (eg.trans e12) (fun b hb e => by have := hlo b (.inr (hxv ▸ e)); omega)
      have c5 := (m5.block h.size (Nat.lt_of_lt_of_le hq0 z2) (fun e => a'.svne (hxv ▸ e) rfl)).trans ((e2.block _ hq0).trans a0.cells)
      have k5 := cellOf (i := 0) c5 rfl
      have fr5 := frzOf (i := 0) c5
      obtain ⟨ya, yn, yc, rfl, -, -, -⟩ := o5.form
      simp (disch := omega) [k5, fr5]
      have m6 := Mod.set g5 ⟨h.size, 0, none⟩ (.slice ya yn yc)
      have hv2 : ∀ b, blkG (.slice ya yn yc) = some b → b ≠ h.size := fun b hb => o5.ne hb c5 (by decide)
      have hnil : ∀ y ∈ r'.X, y.f.ps = [] := fun y hy => crashAll_ps ks _ _ (hX' ▸ List.mem_map_of_mem hy)
      have hcs : r'.X.map (·.f) ++ [x.f.crash (ks.drop N)] = crashAll ks ((r.X.take (i + 1)).map (·.f)) := by
        rw [hfn, crashAll_snoc, ← hX', hN]
      refine hX (i + 1, ⟨r'.X ++ [⟨x.f.crash (ks.drop N), .slice none 0 0⟩], 0, .slice ya yn yc⟩, N + x.f.ps.length) _ _ _ (by simp) (by simp) ⟨hil, m6.ext_from m5' (fun b hb e => by have e' : b = h.size := e; omega), ⟨?_, ?_, fun y hy => ?_, fun y hy => ?_, fun y hy => ?_, ?_, Nat.zero_lt_of_lt (show 0 < 1000000 by decide), fun y hy => ?_, ?_⟩, ?_, fun b hb => ?_, rfl, by dsimp only; omega⟩ (by dsimp only; omega)
      · rw [hst] at c5
        exact obj_set c5
      · rw [List.flatMap_append]
        have := o5.mod m6 (fun b hb e => hv2 b hb e)
        have hcn : (x.f.crash (ks.drop N)).name = x.f.name := rfl
        simpa [rfV, hcn] using this
      · rcases List.mem_append.1 hy with hy | hy
        · have o6 := a'.ps y hy
          rw [hnil y hy] at o6 ⊢
          have o7 := (o6.ext e12)
          refine (o7.mod m5 (fun b hb e => ?_)).mod m6 (fun b hb e => ?_)
          · exact (a'.pne hy hb) (.inr (hxv ▸ e))
          · exact (a'.pne hy hb) (.inl e)
        · simp at hy; subst hy; exact .nil
      · rcases List.mem_append.1 hy with hy | hy
        · exact a'.ok y hy
        · simp at hy; subst hy; exact hok.crash _
      · rcases List.mem_append.1 hy with hy | hy
        · exact a'.names y hy
        · simp at hy; subst hy; exact hxn
      · show (r'.X ++ [_]).length ≤ 256
        rw [List.length_append, hxl9]; show i + 1 ≤ 256; omega
      · have : y.f.ps = [] := by
          rcases List.mem_append.1 hy with hy | hy
          · exact hnil y hy
          · simp at hy; subst hy; rfl
        rw [this]; exact Nat.zero_le _
      · have hs9 : (r.X.map (·.f.name)).Pairwise fun x y => Op.bytesLess x y = true := List.pairwise_map.2 a.sort
        have hnm : (r'.X ++ [(⟨x.f.crash (ks.drop N), .slice none 0 0⟩ : Rf)]).map (·.f.name) = (r.X.take (i + 1)).map (·.f.name) := by
          have h9 := congrArg (List.map (·.name)) hcs
          rw [crashAll_names, List.map_map, List.map_append, List.map_map] at h9
          rw [List.map_append]
          exact h9
        have hs8 : ((r.X.take (i + 1)).map (·.f.name)).Pairwise fun x y => Op.bytesLess x y = true := by
          rw [List.map_take]; exact List.Pairwise.sublist (List.take_sublist _ _) hs9
        rw [← hnm] at hs8
        exact List.pairwise_map.1 hs8
      · rw [← hcs, List.map_append]; rfl
      · rcases hb with e | e
        · exact Nat.le_of_eq e.symm
        · rcases f5 b e with e | e
          · exact hlo b (.inr (hxv ▸ e))
          · have := Nat.le_trans z2 e
            have := eg.size; omega
  · obtain rfl : i = r.X.length := by omega
    obtain ⟨sa, sc, hsv, hsc⟩ := ag.form
    have c0' : hcell g ⟨p, 0, none⟩ = some (.slice sa r.X.length sc) := hsv ▸ c0
    unfold ptrV
    simp (disch := omega) [c0']
    rw [List.take_length] at hX'
    exact H g h.size r' eg a' hX' hlo
end Go.Proofs.Ytdmcaaojapcbcaa
set_option linter.unusedSimpArgs false
set_option linter.unusedVariables false
namespace Go.Proofs.Ytdmcaaojapcbcaa
open Go.Vc
variable {K : Value → Heap → Prop} {h : Heap}

theorem sorted_eq : ∀ {L M : List (List UInt8)}, L.Perm M → L.Pairwise (fun x y => Op.bytesLess y x = false) → M.Pairwise (fun x y => Op.bytesLess x y = true) → L = M
  | [], M, hp, _, _ => (List.nil_perm.1 hp).symm
  | x :: L, [], hp, _, _ => absurd hp.length_eq (by simp)
  | x :: L, y :: M, hp, h1, h2 => by
    have e : x = y := by
      rcases List.mem_cons.1 (hp.mem_iff.1 List.mem_cons_self) with e | e
      · exact e
      · rcases List.mem_cons.1 (hp.mem_iff.2 (List.mem_cons_self (a := y) (l := M))) with e2 | e2
        · exact e2.symm
        · have a1 := (List.pairwise_cons.1 h2).1 x e
          have a2 := (List.pairwise_cons.1 h1).1 y e2
          rw [a1] at a2; cases a2
    subst e
    rw [sorted_eq ((List.perm_cons _).1 hp) (List.pairwise_cons.1 h1).2 (List.pairwise_cons.1 h2).2]
theorem sum_zero : ∀ {l : List Nat}, (∀ n ∈ l, n = 0) → l.sum = 0
  | [], _ => rfl
  | n :: l, h => by rw [List.sum_cons, h n List.mem_cons_self, sum_zero fun m hm => h m (List.mem_cons_of_mem _ hm)]
theorem RsAt.sorted {p : Nat} {r : Rs} (a : RsAt h p r) : (r.X.map (·.f.name)).Pairwise fun x y => Op.bytesLess x y = true := List.pairwise_map.2 a.sort
set_option maxHeartbeats 4000000 in
theorem is7_c {p pr : Nat} {s : St} {r : Rs} (a : StAt h p s) (ar : RsAt h pr r) (hf : s.F.map Fh.f = r.X.map (·.f)) (hnil : ∀ x ∈ r.X, x.f.ps = []) (H : ∀ h', Ext h h' → K (.bool true) h') : CallsH Try.prog 37 #[ptrV p, ptrV pr] h K ⟨⟩ := by
  refine n37_calls ?_
  unfold n37
  refine Names_c a fun h1 v L e1 pm so o1 _ => ?_
  have hnm : s.F.map (·.name) = r.X.map (·.f.name) := by
    have := congrArg (List.map Fl.name) hf
    rw [List.map_map, List.map_map] at this
    exact this
  have hL : L = r.X.map (·.f.name) := sorted_eq (hnm ▸ pm) so ar.sorted
  have hLl : L.length = r.X.length := by rw [hL, List.length_map]
  have hfew := ar.few
  obtain ⟨wa, wn, wc, rfl, hwl, hwc, hwne⟩ := o1.form (by omega)
  obtain rfl : wn = L.length := by simpa using hwl.symm
  have a1 := a.ext e1
  have r1 := ar.ext e1
  obtain ⟨sa, sc, hsv, hsc⟩ := r1.form
  have c0 : hcell h1 ⟨pr, 0, none⟩ = some (.slice sa r.X.length sc) := hsv ▸ cellOf (i := 0) r1.cells rfl
  have hpend : s.pend = 0 := by
    unfold St.pend
    have : (s.F.map fun x => x.f.ps.length) = (s.F.map Fh.f).map fun f => f.ps.length := by rw [List.map_map]; rfl
    rw [this, hf, List.map_map]
    exact sum_zero fun n hn => by
      obtain ⟨x, hx, rfl⟩ := List.mem_map.1 hn
      simp [hnil x hx]
  unfold ptrV
  rw [hLl]
  simp (disch := omega) [c0]
  refine Pending_c a1 fun h2 e2 => ?_
  rw [hpend]
  simp (disch := omega)
  have a2 := a1.ext e2
  have r2 := r1.ext e2
  refine loopX1 (α := Nat) (fun i => .int .i64 i) (fun i g => i ≤ r.X.length ∧ Ext h2 g) (fun i => r.X.length - i) 0 rfl ⟨Nat.zero_le _, .refl _⟩ ?_
  rintro i g ⟨hi, eg⟩ X hX
  by_cases hil : i < r.X.length
  · obtain ⟨wb, rfl⟩ := hwne (by intro e; have h9 := congrArg List.length e; simp at h9; rw [h9] at hLl; simp at hLl; omega)
    have og := (o1.ext e2).ext eg
    have hiL : i < L.length := by omega
    have ci := (og.elt (i := i) (by simpa using hiL)).1
    have ce : (L.map str)[i]'(by simpa using hiL) = str r.X[i].f.name := by simp [hL]
    rw [ce] at ci
    obtain ⟨x, hx, hxf⟩ : ∃ x ∈ s.F, x.f = r.X[i].f := by
      have : r.X[i].f ∈ s.F.map Fh.f := hf ▸ List.mem_map_of_mem (List.getElem_mem hil)
      obtain ⟨x, hx, e⟩ := List.mem_map.1 this
      exact ⟨x, hx, e⟩
    have hxn : x.name = r.X[i].f.name := congrArg Fl.name hxf
    have hnow : x.f.now = r.X[i].f.last := by
      unfold Fl.now
      rw [hxf, hnil _ (List.getElem_mem hil)]; rfl
    simp (disch := omega) [ci]
    refine readAll_c (a2.ext eg) hx hxn fun g2 v2 e3 o2 _ _ => ?_
    rw [hnow] at o2
    have rg := (r2.ext eg).ext e3
    obtain ⟨bb, o, c, hsv2, hsc2, -, t0, t1, -, -, -, -⟩ := rg.cellB (i := i) hil
    have c2 : hcell g2 ⟨pr, 0, none⟩ = some (.slice (some ⟨bb, o, none⟩) r.X.length c) := hsv2 ▸ cellOf (i := 0) rg.cells rfl
    have ci2 := ((og.ext e3).elt (i := i) (by simpa using hiL)).1
    rw [ce] at ci2
    simp only [elt_mk, Nat.zero_add] at ci2
    obtain ⟨ra, rn, rc, rfl, -, -, -⟩ := o2.form
    simp (disch := omega) [ci2, c2, elt_mk, t0]
    rw [Hp_bytesStr (e := bT) (by kernel_rfl) (by kernel_rfl) (by kernel_rfl) o2.bytes]
    simp (disch := omega) [ci2, c2, elt_mk, t1]
    exact hX (i + 1) _ _ (by simp) ⟨hil, eg.trans e3⟩ (by omega)
  · simp (disch := omega)
    exact H _ ((e1.trans e2).trans eg)
end Go.Proofs.Ytdmcaaojapcbcaa
