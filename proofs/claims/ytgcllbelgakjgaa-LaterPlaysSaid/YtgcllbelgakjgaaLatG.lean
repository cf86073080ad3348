/- Later: a going over that tells these runs. Later: both queues side by side. Later: the contracts of no queue. Later: what is drained of no queue; the law's nothing. Later: the law's nothing. -/
import Derived.Test.YtgcllbelgakjgaaLatF
set_option linter.unusedSimpArgs false
set_option linter.unusedVariables false
namespace Go.Proofs.Ytgcllbelgakjgaa
open Go.Vc Go.Sort
variable {K : Value → Heap → Prop} {h : Heap}

set_option maxHeartbeats 4000000 in
theorem goes_c {sb : Nat} {v w : Value} {L : List Rn} {leave : Int} (hs : Seq h sb v L) (rw_ : Rns h w L) (hlv : i64 leave) (H : ∀ h', Ext h h' → K (.bool true) h') : CallsH Try.prog 26 #[seqV sb, w, .int .i64 leave] h K ⟨⟩ := by
  refine n26_calls ?_
  unfold n26
  obtain ⟨wa, wc, rfl, hwc⟩ := Rns.form rw_
  have hl := rw_.few
  simp only [List.length_map] at hl
  unfold seqV
  simp (disch := omega)
  refine (⟨_, rfl⟩ : ∃ f, f = hset ((((h.push (.cells #[.slice wa L.length wc] 22)).push (.cells #[.int .i64 leave] 3)).push (.cells #[.bool false] 4)).push (.cells #[.int .i64 0] 3)) ⟨h.size + 1 + 1 + 1, 0, none⟩ (.int .i64 0)).elim fun g0 eg => ?_
  have e0 : Ext h g0 := by rw [eg]; exact (by repeat' (first | (with_reducible exact Ext.refl _) | (with_reducible assumption) | (with_reducible refine push_ext ?_) | (with_reducible refine hset_ext ?_ ?_) | (with_reducible refine Ext.trans ?_ (by assumption)) | omega | (simp; done) | (simp; omega) | (refine Ext.size ?_) | (refine Nat.le_succ_of_le (Ext.size ?_))))
  have b0 : g0[h.size]? = some (.cells #[.slice wa L.length wc] 22) := by rw [eg]; exact (get_hset' (by simp; omega)).trans ((get_push (by simp; omega)).trans ((get_push (by simp; omega)).trans ((get_push (by simp)).trans (get_pushed rfl))))
  have b1 : g0[h.size + 1]? = some (.cells #[.int .i64 leave] 3) := by rw [eg]; exact (get_hset' (by simp)).trans ((get_push (by simp)).trans ((get_push (by simp)).trans (get_pushed (by simp))))
  have b2 : g0[h.size + 2]? = some (.cells #[.bool false] 4) := by rw [eg]; exact (get_hset' (by simp)).trans ((get_push (by simp)).trans (get_pushed (by simp)))
  have b3 : g0[h.size + 3]? = some (.cells #[.int .i64 0] 3) := by rw [eg]; exact (obj_set (get_pushed (by simp))).trans (by simp)
  rw [← eg]
  clear eg
  rw [show h.size + 1 + 1 + 1 = h.size + 3 from rfl, show h.size + 1 + 1 = h.size + 2 from rfl]
  have l3 := get_some_lt b3
  have a0 := hs.ext e0
  have w0 := rw_.ext e0
  rw [show (.func (.func 62) #[] #[ptrV sb] : Value) = seqV sb from rfl]
  refine JoinN_in1 (fun D g => D = consD g0.size (.tuple #[]) ∧ g[g0.size]? = some (.deferred (some [])) ∧ Mod (fun b => b = h.size + 3) g0 g ∧ g[h.size + 3]? = some (.cells #[.int .i64 L.length] 3)) (fun kk hkk => ?_) (fun D g12 hD => ?_)
  · refine JoinN.mk ?_
    refine RangeL a0 (fun i g => Mod (fun b => b = h.size + 3) g0 g ∧ g0.size + 2 ≤ g.size ∧ g[g0.size]? = some (.deferred (some [])) ∧ g[h.size + 3]? = some (.cells #[.int .i64 i] 3)) (fun g => Mod (fun b => b = h.size + 2 ∨ b = h.size + 3) g0 g ∧ g0.size + 2 ≤ g.size ∧ g[g0.size]? = some (.deferred (some [])) ∧ g[h.size + 2]? = some (.cells #[.bool true] 4)) ?_ ?_ ?_ ?_ ?_ ?_
    · intro g e z d
      exact ⟨.of_ext e, by omega, d, (e.block _ l3).trans b3⟩
    · rintro i g g' ⟨m, z, d, n⟩ e
      exact ⟨Mod.extIn m e, by have := e.size; omega, (e.block _ (get_some_lt d)).trans d, (e.block _ (get_some_lt n)).trans n⟩
    · rintro i g ⟨m, z, d, n⟩
      have hsb : sb < h.size := get_some_lt hs.cell
      exact a0.mod m (by omega) (fun b hb => by have := hs.row.lt hb; omega)
    · rintro i hi g oR oB J X ⟨m, z, d, n⟩ hlo hoR hoB hX hJ
      have hwl : ∀ b, blkV (.slice wa L.length wc) = some b → b < h.size := fun b hb => Rws.lt rw_ (by intro e; rw [List.map_eq_nil_iff] at e; subst e; simp at hi) hb
      have hwi : Rns g (.slice wa L.length wc) L := w0.mod m (fun b hb => by have := hwl b hb; omega)
      have zm := m.size
      have hfx := hs.fit _ (List.getElem_mem hi)
      generalize hx : L[i] = x at *
      have hgv : getV [rwA (rnP x)] 0 = .agg #[.int .i64 (x.at_ : Nat), .int .i64 (x.len : Nat)] := rfl
      rw [hgv]
      clear hgv
      simp (disch := omega)
      refine (⟨_, rfl⟩ : ∃ f, f = hset (hset (Array.push g (.cells #[.int .i64 0, .int .i64 0] runT)) ⟨g.size, 0, none⟩ (.int .i64 (x.at_ : Nat))) ⟨g.size, 1, none⟩ (.int .i64 (x.len : Nat))).elim fun gy egy => ?_
      have ey : Ext g gy := by rw [egy]; exact (by repeat' (first | (with_reducible exact Ext.refl _) | (with_reducible assumption) | (with_reducible refine push_ext ?_) | (with_reducible refine hset_ext ?_ ?_) | (with_reducible refine Ext.trans ?_ (by assumption)) | omega | (simp; done) | (simp; omega) | (refine Ext.size ?_) | (refine Nat.le_succ_of_le (Ext.size ?_))))
      have by_ : gy[g.size]? = some (.cells #[.int .i64 (x.at_ : Nat), .int .i64 (x.len : Nat)] runT) := by
        rw [egy]
        refine (obj_set (obj_set (get_pushed rfl))).trans ?_
        simp
      rw [show hset (hset (Array.push g (.cells #[.int .i64 0, .int .i64 0] 24)) ⟨g.size, 0, none⟩ (.int .i64 (x.at_ : Nat))) ⟨g.size, 1, none⟩ (.int .i64 (x.len : Nat)) = gy from egy.symm]
      clear egy
      have hll := get_some_lt hlo
      refine ⟨(ey.block _ hll).trans hlo, ?_⟩
      have mB := Mod.put gy (g0.size + 1) oB
      refine (⟨_, rfl⟩ : ∃ f, f = gy.setIfInBounds (g0.size + 1) oB).elim fun gB egB => ?_
      rw [← egB] at mB ⊢
      have zy := ey.size
      have lB : gB[g0.size + 1]? = some oB := by rw [egB, get_put2 (by omega), if_pos rfl]
      clear egB
      have zB := mB.size
      have stay : ∀ b o, g[b]? = some o → b ≠ g0.size + 1 → gB[b]? = some o := fun b o hb hne => (mB.block _ (by have := get_some_lt hb; omega) hne).trans ((ey.block _ (get_some_lt hb)).trans hb)
      have bby := (mB.block _ (get_some_lt by_) (by omega)).trans by_
      have s0 := stay _ _ ((m.block _ (get_some_lt b0) (by omega)).trans b0) (by omega)
      have s1 := stay _ _ ((m.block _ (get_some_lt b1) (by omega)).trans b1) (by omega)
      have s2 := stay _ _ ((m.block _ (get_some_lt b2) (by omega)).trans b2) (by omega)
      have s3 := stay _ _ n (by omega)
      have dB := stay _ _ d (by omega)
      have mg : Mod (fun b => b = h.size + 3 ∨ b = g0.size + 1) g0 gB := ((Mod.extIn m ey).mono (fun b _ e => .inl e)).trans mB (fun b _ e => .inr e)
      have wB : Rns gB (.slice wa L.length wc) L := w0.mod mg (fun b hb => by have := hwl b hb; omega)
      obtain ⟨ad, c', hv', -, c0, c1⟩ := Rns.cell wB hi
      obtain ⟨e8, -⟩ : wa = some ad ∧ wc = c' := by cases hv'; exact ⟨rfl, rfl⟩
      subst e8
      rw [hx] at c0 c1
      have k0 := cellOf (i := 0) bby rfl
      have k1 := cellOf (i := 1) bby rfl
      have k2 := cellOf (i := 0) s0 rfl
      have k3 := cellOf (i := 0) s1 rfl
      have k4 := cellOf (i := 0) s2 rfl
      have k5 := cellOf (i := 0) s3 rfl
      have f4 : hfrozen gB ⟨h.size + 2, 0, none⟩ = false := frzOf s2
      have f5 : hfrozen gB ⟨h.size + 3, 0, none⟩ = false := frzOf s3
      have n1 : h.size ≠ h.size + 3 := by omega
      have mC := Mod.set gB ⟨h.size + 3, 0, none⟩ (.int .i64 ((i : Int) + 1))
      have nC : (hset gB ⟨h.size + 3, 0, none⟩ (.int .i64 ((i : Int) + 1)))[h.size + 3]? = some (.cells #[.int .i64 ((i : Int) + 1)] 3) := (obj_set s3).trans (by simp)
      have f6 : hfrozen (hset gB ⟨h.size + 3, 0, none⟩ (.int .i64 ((i : Int) + 1))) ⟨h.size + 2, 0, none⟩ = false := by simpa using f4
      by_cases hle : (i : Int) + 1 = leave
      · simp (disch := omega) [k0, k1, k2, k3, k4, k5, f4, f5, c0, c1, hle]
        rw [hle] at mC nC f6
        have mC2 : Mod (fun b => b = h.size + 3) gB (hset gB ⟨h.size + 3, 0, none⟩ (.int .i64 leave)) := mC
        have tC := (mC2.block _ (get_some_lt s2) (by omega)).trans s2
        have dC := (mC2.block _ (get_some_lt dB) (by omega)).trans dB
        have lC := (mC2.block _ (get_some_lt lB) (by omega)).trans lB
        generalize hset gB ⟨h.size + 3, 0, none⟩ (.int .i64 leave) = gC at *
        have mD : Mod (fun b => b = h.size + 2) gC (hset gC ⟨h.size + 2, 0, none⟩ (.bool true)) := Mod.set gC ⟨h.size + 2, 0, none⟩ (.bool true)
        have tD : (hset gC ⟨h.size + 2, 0, none⟩ (.bool true))[h.size + 2]? = some (.cells #[.bool true] 4) := (obj_set tC).trans (by simp)
        have dD := (mD.block _ (get_some_lt dC) (by omega)).trans dC
        have lD := (mD.block _ (get_some_lt lC) (by omega)).trans lC
        have zC := mC2.size
        have zD := mD.size
        refine hJ _ ⟨?_, by omega, dD, tD⟩ lD
        exact (((mg.mono (T := fun b => b = h.size + 2 ∨ b = h.size + 3 ∨ b = g0.size + 1) fun b _ e => e.elim (fun e => .inr (.inl e)) (fun e => .inr (.inr e))).trans mC2 (fun b _ e => .inr (.inl e))).trans mD (fun b _ e => .inl e)).mono (fun b hb e => by omega)
      · simp (disch := omega) [k0, k1, k2, k3, k4, k5, f4, f5, c0, c1, hle]
        have mC2 : Mod (fun b => b = h.size + 3) gB (hset gB ⟨h.size + 3, 0, none⟩ (.int .i64 ((i : Int) + 1))) := mC
        have dC := (mC2.block _ (get_some_lt dB) (by omega)).trans dB
        have lC := (mC2.block _ (get_some_lt lB) (by omega)).trans lB
        generalize hset gB ⟨h.size + 3, 0, none⟩ (.int .i64 ((i : Int) + 1)) = gC at *
        have mE := Mod.put gC (g0.size + 1) oR
        have zC := mC2.size
        have zE := mE.size
        refine ⟨lC, ?_⟩
        refine hX _ ⟨?_, by omega, (mE.block _ (get_some_lt dC) (by omega)).trans dC, ?_⟩ (by rw [get_put2 (get_some_lt lC), if_pos rfl])
        · exact (((mg.trans mC2 (fun b _ e => .inl e)).trans mE (fun b _ e => .inr e))).mono (fun b hb e => by omega)
        · rw [(mE.block _ (get_some_lt nC) (by omega)), nC]
          simp
    · rintro g oE oR ⟨m, z, d, n⟩ hlo hoR
      have mE := Mod.put g (g0.size + 1) oE
      have zm := m.size
      exact hkk _ _ ⟨rfl, (mE.block _ (get_some_lt d) (by omega)).trans d, m.trans mE (fun b hb e => by have e' : b = g0.size + 1 := e; omega), (mE.block _ (get_some_lt n) (by omega)).trans n⟩
    · rintro g oE oR ⟨m, z, d, n⟩ hlo hoR
      have mE := Mod.put g (g0.size + 1) oE
      have zm := m.size
      have d2 := (mE.block _ (get_some_lt d) (by omega)).trans d
      refine RetD_one' d2 ?_
      have n2 := (mE.block _ (get_some_lt n) (by omega)).trans n
      have mF := Mod.put (g.setIfInBounds (g0.size + 1) oE) g0.size (.deferred none)
      have n3 := (mF.block _ (get_some_lt n2) (by omega)).trans n2
      simp (disch := omega) [cellOf (i := 0) n3 rfl]
      have mm := (m.trans mE (fun b hb e => by have e' : b = g0.size + 1 := e; omega)).trans mF (fun b hb e => by have e' : b = g0.size := e; omega)
      exact H _ (mm.ext_from e0 (fun b hb e => by omega))
  · obtain ⟨rfl, d, m, n⟩ := hD
    have m0 := (m.block _ (get_some_lt b0) (by omega)).trans b0
    have t2 := (m.block _ (get_some_lt b2) (by omega)).trans b2
    have f2 : hfrozen g12 ⟨h.size + 2, 0, none⟩ = false := frzOf t2
    simp (disch := omega) [cellOf (i := 0) n rfl, cellOf (i := 0) m0 rfl, cellOf (i := 0) t2 rfl, f2]
    have mD : Mod (fun b => b = h.size + 2) g12 (hset g12 ⟨h.size + 2, 0, none⟩ (.bool true)) := Mod.set g12 ⟨h.size + 2, 0, none⟩ (.bool true)
    have dD := (mD.block _ (get_some_lt d) (by omega)).trans d
    have tD : (hset g12 ⟨h.size + 2, 0, none⟩ (.bool true))[h.size + 2]? = some (.cells #[.bool true] 4) := (obj_set t2).trans (by simp)
    refine RetD_one' dD ?_
    have mF := Mod.put (hset g12 ⟨h.size + 2, 0, none⟩ (.bool true)) g0.size (.deferred none)
    have tF := (mF.block _ (get_some_lt tD) (by omega)).trans tD
    simp (disch := omega) [cellOf (i := 0) tF rfl]
    exact H _ ((((m.mono (T := fun b => b = h.size + 2 ∨ b = h.size + 3 ∨ b = g0.size) fun b _ e => .inr (.inl e)).trans mD (fun b _ e => .inl e)).trans mF (fun b _ e => .inr (.inr e))).ext_from e0 (fun b hb e => by omega))
end Go.Proofs.Ytgcllbelgakjgaa
set_option linter.unusedSimpArgs false
set_option linter.unusedVariables false
namespace Go.Proofs.Ytgcllbelgakjgaa
open Go.Vc Go.Sort
variable {K : Value → Heap → Prop} {h : Heap}

/-- Both queues, apart from each other, with the same runs. -/
structure Bo (h : Heap) (q : Nat) (s : Lq) (p : Nat) (v : Value) (L : List Rn) : Prop where
  st : LqAt h q s L
  doc : Rl h p v L
  pf : ¬ foot q s p
  vf : ∀ c, blkV v = some c → ¬ foot q s c
structure BUpd (h h' : Heap) (q : Nat) (s s' : Lq) (p : Nat) (v v' : Value) (L' : List Rn) : Prop where
  st : Bo h' q s' p v' L'
  mod : Mod (fun b => foot q s b ∨ b = p) h h'
  foot : ∀ b, foot q s' b → foot q s b ∨ h.size ≤ b
  blk : ∀ b, blkV v' = some b → blkV v = some b ∨ h.size ≤ b
variable {q p : Nat} {s s' : Lq} {v v' : Value} {L L' : List Rn}
theorem Bo.mod {S : Nat → Prop} {h' : Heap} (a : Bo h q s p v L) (m : Mod S h h') (h1 : ∀ b, foot q s b → ¬ S b) (h2 : ¬ S p) (h3 : ∀ b, blkV v = some b → ¬ S b) : Bo h' q s p v L := ⟨a.st.mod m h1, a.doc.mod m h2 h3, a.pf, a.vf⟩
theorem Bo.ext {h' : Heap} (a : Bo h q s p v L) (e : Ext h h') : Bo h' q s p v L := a.mod (S := fun _ => False) (.of_ext e) (fun _ _ x => x) (fun x => x) (fun _ _ x => x)
theorem Bo.refl (a : Bo h q s p v L) : BUpd h h q s s p v v L := ⟨a, .of_ext (.refl _), fun _ => .inl, fun _ => .inl⟩
theorem BUpd.ext {h2 h' : Heap} (u : BUpd h h' q s s' p v v' L') (e : Ext h' h2) : BUpd h h2 q s s' p v v' L' := ⟨u.st.ext e, Mod.extIn u.mod e, u.foot, u.blk⟩
theorem BUpd.from {h0 h' : Heap} (e : Ext h0 h) (u : BUpd h h' q s s' p v v' L') : BUpd h0 h' q s s' p v v' L' := ⟨u.st, (Mod.of_ext e).trans u.mod (fun _ _ x => x), fun b hb => (u.foot b hb).imp (fun x => x) (fun x => by have := e.size; omega), fun b hb => (u.blk b hb).imp (fun x => x) (fun x => by have := e.size; omega)⟩
theorem Bo.lt (a : Bo h q s p v L) : p < h.size := get_some_lt a.doc.cells
theorem BUpd.of {h1 h2 : Heap} (a : Bo h q s p v L) (u : LUpd h h1 q s s' L') (w : RUpd h1 h2 p v v' L') : BUpd h h2 q s s' p v v' L' := by
  have z1 := u.mod.size
  have hp1 : ¬ Go.Proofs.Ytgcllbelgakjgaa.foot q s' p := fun hf => (u.foot p hf).elim a.pf (fun e => by have := a.lt; omega)
  refine ⟨⟨u.st.mod w.mod (fun b hb e => by have e' : b = p := e; exact hp1 (e' ▸ hb)), w.st, hp1, fun c hc hf => ?_⟩, (u.mod.mono (fun b _ e => .inl e)).trans w.mod (fun b _ e => .inr e), fun b hb => u.foot b hb, fun b hb => (w.blk b hb).imp (fun x => x) (fun x => by omega)⟩
  rcases w.blk c hc with e | e
  · rcases u.foot c hf with f | f
    · exact a.vf c e f
    · have := a.doc.own.lt e; omega
  · have := u.st.lt hf; omega
theorem Bo.doc1 {h1 : Heap} (a : Bo h q s p v L) (u : LUpd h h1 q s s' L') : Rl h1 p v L := a.doc.mod u.mod a.pf a.vf

/-! ### A going over that ends at once -/
theorem RangeDx {D : Value} {B : Nat → List Value → ((Heap → Prop) → Heap → Prop) → (Heap → Prop) → (Code → Heap → Prop) → Heap → Prop} {aN aR : Value → Heap → Prop} {aE : Nat → Value → Heap → Prop} {qo : Option Addr} {b1 b2 : Nat} {most : Int} (c1 : h[b1]? = some (.cells #[.pointer qo] 25)) (c2 : h[b2]? = some (.cells #[.int .i64 most] 2))
    (hnext : ∀ (K0 : Value → Heap → Prop) g, Ext h g → (∀ g' (e : Int), Ext g g' → e = 1 ∨ e = 2 → K0 (.tuple #[rwA (0, 0), .int .i64 e]) g') → CallsH Try.prog 40 #[.pointer qo, .int .i64 most] g K0 ⟨⟩)
    (hend : ∀ g oE, Ext h g → h.size + 2 ≤ g.size → g[h.size]? = some (.deferred (some [])) → aN (consD h.size D) (g.setIfInBounds (h.size + 1) oE)) :
    RangeC Try.prog none (drainV b1 b2) 1 D B aN aR aE h ⟨⟩ ⟨⟩ ⟨⟩ ⟨⟩ := by
  refine RangeC_none rfl fun oR oB oE oX oF Kp hoR hoB hrd hN hR hX => ?_
  refine InvokeH_1_2 (by kernel_rfl) ?_
  refine (⟨_, rfl⟩ : ∃ g, g = (h.push (.deferred (some []))).push oR).elim fun g eg => ?_
  have zg : g.size = h.size + 2 := by simp [eg]
  have eg' : Ext h g := by rw [eg]; exact (by repeat' (first | (with_reducible exact Ext.refl _) | (with_reducible assumption) | (with_reducible refine push_ext ?_) | (with_reducible refine hset_ext ?_ ?_) | (with_reducible refine Ext.trans ?_ (by assumption)) | omega | (simp; done) | (simp; omega) | (refine Ext.size ?_) | (refine Nat.le_succ_of_le (Ext.size ?_))))
  have rD : g[h.size]? = some (.deferred (some [])) := by rw [eg, get_push (by simp), get_pushed rfl]
  have rL : g[h.size + 1]? = some oR := by rw [eg, get_pushed (by simp)]
  rw [← eg]
  clear eg
  refine n44_calls ?_
  unfold n44 ptrV
  refine loopX0 (α := Unit) (fun _ g' => g' = g) (fun _ => 0) () rfl ?_
  rintro - g1 rfl X hX'
  have d1 := cellOf (i := 0) ((eg'.block _ (get_some_lt c1)).trans c1) rfl
  have d2 := cellOf (i := 0) ((eg'.block _ (get_some_lt c2)).trans c2) rfl
  simp (disch := omega) [d1, d2]
  refine hnext _ _ eg' fun h2 e e2 he => ?_
  unfold rwA
  have l2 := (e2.block _ (get_some_lt rL)).trans rL
  have r2 := (e2.block _ (get_some_lt rD)).trans rD
  have he0 : e ≠ 0 := by omega
  simp (disch := omega) [he0]
  refine (⟨_, rfl⟩ : ∃ f, f = hset (hset (Array.push h2 (.cells #[.int .i64 0, .int .i64 0] runT)) ⟨h2.size, 0, none⟩ (.int .i64 0)) ⟨h2.size, 1, none⟩ (.int .i64 0)).elim fun gy egy => ?_
  have ey : Ext h2 gy := by rw [egy]; exact (by repeat' (first | (with_reducible exact Ext.refl _) | (with_reducible assumption) | (with_reducible refine push_ext ?_) | (with_reducible refine hset_ext ?_ ?_) | (with_reducible refine Ext.trans ?_ (by assumption)) | omega | (simp; done) | (simp; omega) | (refine Ext.size ?_) | (refine Nat.le_succ_of_le (Ext.size ?_))))
  rw [show hset (hset (Array.push h2 (.cells #[.int .i64 0, .int .i64 0] 24)) ⟨h2.size, 0, none⟩ (.int .i64 0)) ⟨h2.size, 1, none⟩ (.int .i64 0) = gy from egy.symm]
  clear egy
  have ly := (ey.block _ (get_some_lt l2)).trans l2
  have z2 := e2.size
  have zy := ey.size
  refine hN _ _ ly ?_
  exact hend gy oE ((eg'.trans e2).trans ey) (by omega) ((ey.block _ (get_some_lt r2)).trans r2)
end Go.Proofs.Ytgcllbelgakjgaa
set_option linter.unusedSimpArgs false
set_option linter.unusedVariables false
namespace Go.Proofs.Ytgcllbelgakjgaa
open Go.Vc Go.Sort
variable {K : Value → Heap → Prop} {h : Heap}

theorem Put_n {v w : Value} (a : Lno h v) (H : K (.tuple #[.int .i64 0, .int .i64 1]) h) : CallsH Try.prog 10 #[v, w] h K ⟨⟩ := by
  refine n10_calls ?_
  unfold n10
  refine noneY_c a ?_
  simp (disch := omega)
  exact H
theorem Cut_n {v : Value} {x : Int × Int} (a : Lno h v) (H : ∀ h', Ext h h' → K (.tuple #[.int .i64 0, .int .i64 1]) h') : CallsH Try.prog 11 #[v, rwA x] h K ⟨⟩ := by
  refine n11_calls ?_
  unfold n11 rwA
  simp (disch := omega)
  have e : Ext h (h.push (.cells #[.int .i64 x.1, .int .i64 x.2] runT)) := (by repeat' (first | (with_reducible exact Ext.refl _) | (with_reducible assumption) | (with_reducible refine push_ext ?_) | (with_reducible refine hset_ext ?_ ?_) | (with_reducible refine Ext.trans ?_ (by assumption)) | omega | (simp; done) | (simp; omega) | (refine Ext.size ?_) | (refine Nat.le_succ_of_le (Ext.size ?_))))
  refine noneY_c (a.ext e) ?_
  simp (disch := omega)
  exact H _ e
theorem Over_n {v : Value} {x : Int × Int} (a : Lno h v) (H : ∀ h', Ext h h' → K (.tuple #[.int .i64 0, .int .i64 1]) h') : CallsH Try.prog 17 #[v, rwA x] h K ⟨⟩ := by
  refine n17_calls ?_
  unfold n17 rwA
  simp (disch := omega)
  have e : Ext h (h.push (.cells #[.int .i64 x.1, .int .i64 x.2] runT)) := (by repeat' (first | (with_reducible exact Ext.refl _) | (with_reducible assumption) | (with_reducible refine push_ext ?_) | (with_reducible refine hset_ext ?_ ?_) | (with_reducible refine Ext.trans ?_ (by assumption)) | omega | (simp; done) | (simp; omega) | (refine Ext.size ?_) | (refine Nat.le_succ_of_le (Ext.size ?_))))
  refine noneY_c (a.ext e) ?_
  simp (disch := omega)
  exact H _ e
theorem Next_n {v : Value}{m : Int} (a : Lno h v) (H : ∀ h', Ext h h' → K (.tuple #[rwA (0, 0), .int .i64 1]) h') : CallsH Try.prog 40 #[v, .int .i64 m] h K ⟨⟩ := by
  refine n40_calls ?_
  unfold n40
  simp (disch := omega)
  refine (⟨_, rfl⟩ : ∃ f, f = h.push (.cells #[.int .i64 0, .int .i64 0] runT)).elim fun g eg => ?_
  have e0 : Ext h g := by rw [eg]; exact (by repeat' (first | (with_reducible exact Ext.refl _) | (with_reducible assumption) | (with_reducible refine push_ext ?_) | (with_reducible refine hset_ext ?_ ?_) | (with_reducible refine Ext.trans ?_ (by assumption)) | omega | (simp; done) | (simp; omega) | (refine Ext.size ?_) | (refine Nat.le_succ_of_le (Ext.size ?_))))
  have q0 : g[h.size]? = some (.cells #[.int .i64 0, .int .i64 0] runT) := by rw [eg]; exact get_pushed rfl
  rw [show h.push (.cells #[.int .i64 0, .int .i64 0] 24) = g from eg.symm]
  clear eg
  refine noneY_c (a.ext e0) ?_
  have x0 := cellOf (i := 0) q0 rfl
  have x1 := cellOf (i := 1) q0 rfl
  have f0 : hfrozen g ⟨h.size, 0, none⟩ = false := frzOf q0
  have f1 : hfrozen g ⟨h.size, 1, none⟩ = false := frzOf q0
  simp (disch := omega) [x0, x1, f0, f1]
  exact H _ (ans_ext e0 (Nat.le_refl _))
theorem Greatest_n {v : Value} (a : Lno h v) (H : ∀ h', Ext h h' → K (.tuple #[rwA (0, 0), .int .i64 1]) h') : CallsH Try.prog 16 #[v] h K ⟨⟩ := by
  refine n16_calls ?_
  unfold n16
  simp (disch := omega)
  refine (⟨_, rfl⟩ : ∃ f, f = h.push (.cells #[.int .i64 0, .int .i64 0] runT)).elim fun g eg => ?_
  have e0 : Ext h g := by rw [eg]; exact (by repeat' (first | (with_reducible exact Ext.refl _) | (with_reducible assumption) | (with_reducible refine push_ext ?_) | (with_reducible refine hset_ext ?_ ?_) | (with_reducible refine Ext.trans ?_ (by assumption)) | omega | (simp; done) | (simp; omega) | (refine Ext.size ?_) | (refine Nat.le_succ_of_le (Ext.size ?_))))
  have q0 : g[h.size]? = some (.cells #[.int .i64 0, .int .i64 0] runT) := by rw [eg]; exact get_pushed rfl
  rw [show h.push (.cells #[.int .i64 0, .int .i64 0] 24) = g from eg.symm]
  clear eg
  refine noneY_c (a.ext e0) ?_
  have x0 := cellOf (i := 0) q0 rfl
  have x1 := cellOf (i := 1) q0 rfl
  have f0 : hfrozen g ⟨h.size, 0, none⟩ = false := frzOf q0
  have f1 : hfrozen g ⟨h.size, 1, none⟩ = false := frzOf q0
  simp (disch := omega) [x0, x1, f0, f1]
  exact H _ (ans_ext e0 (Nat.le_refl _))
theorem Size_n {v : Value} (a : Lno h v) (H : ∀ h', Ext h h' → K (.tuple #[.int .i64 0, .int .i64 0]) h') : CallsH Try.prog 12 #[v] h K ⟨⟩ := by
  refine n12_calls ?_
  unfold n12
  refine list_n a ?_
  simp (disch := omega)
  refine bytes_c (L := []) .nil (by simp [bytesR]) fun h1 e1 => ?_
  exact H _ e1
theorem Copy_n {v : Value} (a : Lno h v) (H : K (.pointer none) h) : CallsH Try.prog 15 #[v] h K ⟨⟩ := by
  refine n15_calls ?_
  unfold n15
  refine noneY_c a ?_
  simp (disch := omega)
  exact H
end Go.Proofs.Ytgcllbelgakjgaa
set_option linter.unusedSimpArgs false
set_option linter.unusedVariables false
namespace Go.Proofs.Ytgcllbelgakjgaa
open Go.Vc Go.Sort
variable {K : Value → Heap → Prop} {h : Heap}

set_option maxHeartbeats 4000000 in
theorem goesD_c {qo : Option Addr} {b1 b2 : Nat} (a : Lno h (.pointer qo)) (c1 : h[b1]? = some (.cells #[.pointer qo] 25)) (c2 : h[b2]? = some (.cells #[.int .i64 1] 2)) (H : ∀ h', Ext h h' → K (.bool true) h') : CallsH Try.prog 26 #[drainV b1 b2, .slice none 0 0, .int .i64 0] h K ⟨⟩ := by
  refine n26_calls ?_
  unfold n26
  unfold drainV
  simp (disch := omega)
  refine (⟨_, rfl⟩ : ∃ f, f = hset ((((h.push (.cells #[.slice none 0 0] 22)).push (.cells #[.int .i64 0] 3)).push (.cells #[.bool false] 4)).push (.cells #[.int .i64 0] 3)) ⟨h.size + 1 + 1 + 1, 0, none⟩ (.int .i64 0)).elim fun g0 eg => ?_
  have e0 : Ext h g0 := by rw [eg]; exact (by repeat' (first | (with_reducible exact Ext.refl _) | (with_reducible assumption) | (with_reducible refine push_ext ?_) | (with_reducible refine hset_ext ?_ ?_) | (with_reducible refine Ext.trans ?_ (by assumption)) | omega | (simp; done) | (simp; omega) | (refine Ext.size ?_) | (refine Nat.le_succ_of_le (Ext.size ?_))))
  have b0 : g0[h.size]? = some (.cells #[.slice none 0 0] 22) := by rw [eg]; exact (get_hset' (by simp; omega)).trans ((get_push (by simp; omega)).trans ((get_push (by simp; omega)).trans ((get_push (by simp)).trans (get_pushed rfl))))
  have b1' : g0[h.size + 1]? = some (.cells #[.int .i64 0] 3) := by rw [eg]; exact (get_hset' (by simp)).trans ((get_push (by simp)).trans ((get_push (by simp)).trans (get_pushed (by simp))))
  have b2' : g0[h.size + 2]? = some (.cells #[.bool false] 4) := by rw [eg]; exact (get_hset' (by simp)).trans ((get_push (by simp)).trans (get_pushed (by simp)))
  have b3 : g0[h.size + 3]? = some (.cells #[.int .i64 0] 3) := by rw [eg]; exact (obj_set (get_pushed (by simp))).trans (by simp)
  rw [← eg]
  clear eg
  rw [show h.size + 1 + 1 + 1 = h.size + 3 from rfl, show h.size + 1 + 1 = h.size + 2 from rfl]
  have l3 := get_some_lt b3
  rw [show (.func (.func 44) #[] #[ptrV b1, ptrV b2] : Value) = drainV b1 b2 from rfl]
  refine JoinN_in1 (fun D g => D = consD g0.size (.tuple #[]) ∧ g[g0.size]? = some (.deferred (some [])) ∧ Ext g0 g) (fun kk hkk => ?_) (fun D g12 hD => ?_)
  · refine JoinN.mk ?_
    refine RangeDx ((e0.block _ (get_some_lt c1)).trans c1) ((e0.block _ (get_some_lt c2)).trans c2) (fun K0 g eg hK => Next_n (a.ext (e0.trans eg)) fun g' e' => hK g' 1 e' (.inl rfl)) (fun g oE e z d => ?_)
    have mE := Mod.put g (g0.size + 1) oE
    exact hkk _ _ ⟨rfl, (mE.block _ (get_some_lt d) (by omega)).trans d, mE.ext_from e (fun b hb e => by have e' : b = g0.size + 1 := e; omega)⟩
  · obtain ⟨rfl, d, e⟩ := hD
    have m0 := (e.block _ (get_some_lt b0)).trans b0
    have m3 := (e.block _ (get_some_lt b3)).trans b3
    have t2 := (e.block _ (get_some_lt b2')).trans b2'
    have f2 : hfrozen g12 ⟨h.size + 2, 0, none⟩ = false := frzOf t2
    simp (disch := omega) [cellOf (i := 0) m0 rfl, cellOf (i := 0) m3 rfl, cellOf (i := 0) t2 rfl, f2]
    have mD : Mod (fun b => b = h.size + 2) g12 (hset g12 ⟨h.size + 2, 0, none⟩ (.bool true)) := Mod.set g12 ⟨h.size + 2, 0, none⟩ (.bool true)
    have dD := (mD.block _ (get_some_lt d) (by omega)).trans d
    have tD : (hset g12 ⟨h.size + 2, 0, none⟩ (.bool true))[h.size + 2]? = some (.cells #[.bool true] 4) := (obj_set t2).trans (by simp)
    refine RetD_one' dD ?_
    have mF := Mod.put (hset g12 ⟨h.size + 2, 0, none⟩ (.bool true)) g0.size (.deferred none)
    have tF := (mF.block _ (get_some_lt tD) (by omega)).trans tD
    simp (disch := omega) [cellOf (i := 0) tF rfl]
    exact H _ (((mD.mono (T := fun b => b = h.size + 2 ∨ b = g0.size) fun b _ e => .inl e).trans mF (fun b _ e => .inr e)).ext_from (e0.trans e) (fun b hb e => by omega))
end Go.Proofs.Ytgcllbelgakjgaa
set_option linter.unusedSimpArgs false
set_option linter.unusedVariables false
namespace Go.Proofs.Ytgcllbelgakjgaa
open Go.Vc Go.Sort
variable {K : Value → Heap → Prop} {h : Heap}

theorem Drain_o {qo : Option Addr} {most : Int} (H : ∀ h', Ext h h' → h'[h.size]? = some (.cells #[.pointer qo] 25) → h'[h.size + 1]? = some (.cells #[.int .i64 most] 2) → K (drainV h.size (h.size + 1)) h') : CallsH Try.prog 20 #[.pointer qo, .int .i64 most] h K ⟨⟩ := by
  refine n20_calls ?_
  unfold n20
  simp (disch := omega)
  refine H _ (by repeat' (first | (with_reducible exact Ext.refl _) | (with_reducible assumption) | (with_reducible refine push_ext ?_) | (with_reducible refine hset_ext ?_ ?_) | (with_reducible refine Ext.trans ?_ (by assumption)) | omega | (simp; done) | (simp; omega) | (refine Ext.size ?_) | (refine Nat.le_succ_of_le (Ext.size ?_)))) ?_ (get_pushed (by simp))
  rw [get_push (by simp)]
  exact get_pushed rfl
set_option maxHeartbeats 4000000 in
theorem nothing_c (H : ∀ h', Ext h h' → K (.bool true) h') : CallsH Try.prog 28 #[] h K ⟨⟩ := by
  refine n28_calls ?_
  unfold n28
  simp (disch := omega)
  refine (⟨_, rfl⟩ : ∃ f, f = (h.push (.cells #[.slice none 0 0, .nilFunc, .map none, .map none] laT)).push (.cells #[.pointer none, .pointer (some ⟨h.size, 0, none⟩)] 25)).elim fun g0 eg => ?_
  have e0 : Ext h g0 := by rw [eg]; exact (by repeat' (first | (with_reducible exact Ext.refl _) | (with_reducible assumption) | (with_reducible refine push_ext ?_) | (with_reducible refine hset_ext ?_ ?_) | (with_reducible refine Ext.trans ?_ (by assumption)) | omega | (simp; done) | (simp; omega) | (refine Ext.size ?_) | (refine Nat.le_succ_of_le (Ext.size ?_))))
  have q0 : g0[h.size]? = some (.cells #[.slice none 0 0, .nilFunc, .map none, .map none] laT) := by rw [eg]; exact (get_push (by simp)).trans (get_pushed rfl)
  have q1 : g0[h.size + 1]? = some (.cells #[.pointer none, .pointer (some ⟨h.size, 0, none⟩)] 25) := by rw [eg]; exact get_pushed (by simp)
  rw [show (h.push (.cells #[.slice none 0 0, .nilFunc, .map none, .map none] 76)).push (.cells #[.pointer none, .pointer (some ⟨h.size, 0, none⟩)] 25) = g0 from eg.symm]
  clear eg
  refine loopX1 (α := Nat) (fun i => .int .i64 i) (fun i g => i ≤ 2 ∧ Ext g0 g) (fun i => 2 - i) 0 rfl ⟨by omega, .refl _⟩ ?_
  rintro i g ⟨hi, e1⟩ X hX
  by_cases hin : i < 2
  · obtain ⟨o, ho, hno⟩ : ∃ o, hcell g ⟨h.size + 1, i, none⟩ = some (.pointer o) ∧ Lno g (.pointer o) := by
      have q1' := (e1.block _ (get_some_lt q1)).trans q1
      rcases (by omega : i = 0 ∨ i = 1) with rfl | rfl
      · exact ⟨none, cellOf q1' rfl, .inl rfl⟩
      · exact ⟨some _, cellOf q1' rfl, .inr ⟨h.size, rfl, (e1.block _ (get_some_lt q0)).trans q0⟩⟩
    simp (disch := omega) [elt_mk, ho]
    refine Put_n hno ?_
    simp (disch := omega)
    refine Cut_n (x := (0, 0)) hno fun h2 e2 => ?_
    simp (disch := omega)
    refine Next_n (hno.ext e2) fun h3 e3 => ?_
    unfold rwA
    simp (disch := omega)
    refine (⟨_, rfl⟩ : ∃ f, f = hset (hset (Array.push h3 (.cells #[.int .i64 0, .int .i64 0] runT)) ⟨h3.size, 0, none⟩ (.int .i64 0)) ⟨h3.size, 1, none⟩ (.int .i64 0)).elim fun h4 eh4 => ?_
    have Eh4 : Ext h3 h4 := by rw [eh4]; exact (by repeat' (first | (with_reducible exact Ext.refl _) | (with_reducible assumption) | (with_reducible refine push_ext ?_) | (with_reducible refine hset_ext ?_ ?_) | (with_reducible refine Ext.trans ?_ (by assumption)) | omega | (simp; done) | (simp; omega) | (refine Ext.size ?_) | (refine Nat.le_succ_of_le (Ext.size ?_))))
    have Bh4 : h4[h3.size]? = some (.cells #[.int .i64 0, .int .i64 0] runT) := by
      rw [eh4]
      refine (obj_set (obj_set (get_pushed rfl))).trans ?_
      simp
    rw [show hset (hset (Array.push h3 (.cells #[.int .i64 0, .int .i64 0] 24)) ⟨h3.size, 0, none⟩ (.int .i64 0)) ⟨h3.size, 1, none⟩ (.int .i64 0) = h4 from eh4.symm]
    clear eh4
    refine Greatest_n (hno.ext (e2.trans (e3.trans Eh4))) fun h5 e5 => ?_
    unfold rwA
    simp (disch := omega)
    refine (⟨_, rfl⟩ : ∃ f, f = hset (hset (Array.push h5 (.cells #[.int .i64 0, .int .i64 0] runT)) ⟨h5.size, 0, none⟩ (.int .i64 0)) ⟨h5.size, 1, none⟩ (.int .i64 0)).elim fun h6 eh6 => ?_
    have Eh6 : Ext h5 h6 := by rw [eh6]; exact (by repeat' (first | (with_reducible exact Ext.refl _) | (with_reducible assumption) | (with_reducible refine push_ext ?_) | (with_reducible refine hset_ext ?_ ?_) | (with_reducible refine Ext.trans ?_ (by assumption)) | omega | (simp; done) | (simp; omega) | (refine Ext.size ?_) | (refine Nat.le_succ_of_le (Ext.size ?_))))
    have Bh6 : h6[h5.size]? = some (.cells #[.int .i64 0, .int .i64 0] runT) := by
      rw [eh6]
      refine (obj_set (obj_set (get_pushed rfl))).trans ?_
      simp
    rw [show hset (hset (Array.push h5 (.cells #[.int .i64 0, .int .i64 0] 24)) ⟨h5.size, 0, none⟩ (.int .i64 0)) ⟨h5.size, 1, none⟩ (.int .i64 0) = h6 from eh6.symm]
    clear eh6
    refine Over_n (x := (0, 0)) (hno.ext ((e2.trans (e3.trans Eh4)).trans (e5.trans Eh6))) fun h7 e7 => ?_
    simp (disch := omega)
    have e27 := ((e2.trans (e3.trans Eh4)).trans (e5.trans Eh6)).trans e7
    refine Size_n (hno.ext e27) fun h8 e8 => ?_
    have B4 := ((e5.trans Eh6).trans (e7.trans e8)).block _ (get_some_lt Bh4) |>.trans Bh4
    have B6 := (e7.trans e8).block _ (get_some_lt Bh6) |>.trans Bh6
    have x0 := cellOf (i := 0) B4 rfl
    have x1 := cellOf (i := 1) B4 rfl
    have y0 := cellOf (i := 0) B6 rfl
    have y1 := cellOf (i := 1) B6 rfl
    have e28 := e27.trans e8
    simp (disch := omega)
    refine num_c ?_
    simp (disch := omega)
    refine num_c ?_
    simp (disch := omega) [x0, x1]
    refine num_c ?_
    simp (disch := omega) [y0, y1]
    refine num_c ?_
    simp (disch := omega)
    refine num_c ?_
    simp (disch := omega)
    refine All_n (hno.ext e28) fun sb h9 e9 s9 z9 => ?_
    simp (disch := omega)
    refine goes_c (leave := 0) s9 .nil (by unfold i64; omega) fun h10 e10 => ?_
    have e210 := e28.trans (e9.trans e10)
    simp (disch := omega)
    refine Drain_o fun h11 e11 d1 d2 => ?_
    have e211 := e210.trans e11
    simp (disch := omega)
    refine goesD_c (hno.ext e211) d1 d2 fun h12 e12 => ?_
    have e212 := e211.trans e12
    simp (disch := omega)
    refine Same_nn (hno.ext e212) (.inl rfl) ?_
    simp (disch := omega)
    have e13 : Ext h12 (h12.push (.cells #[.slice none 0 0, .nilFunc, .map none, .map none] laT)) := (by repeat' (first | (with_reducible exact Ext.refl _) | (with_reducible assumption) | (with_reducible refine push_ext ?_) | (with_reducible refine hset_ext ?_ ?_) | (with_reducible refine Ext.trans ?_ (by assumption)) | omega | (simp; done) | (simp; omega) | (refine Ext.size ?_) | (refine Nat.le_succ_of_le (Ext.size ?_))))
    refine Same_nn (hno.ext (e212.trans e13)) (.inr ⟨h12.size, rfl, get_pushed rfl⟩) ?_
    simp (disch := omega)
    refine Copy_n (hno.ext (e212.trans e13)) ?_
    simp (disch := omega)
    exact hX (i + 1) _ _ (by simp) ⟨by omega, (e1.trans e212).trans e13⟩ (by omega)
  · obtain rfl : i = 2 := by omega
    simp (disch := omega)
    exact H _ (e0.trans e1)
end Go.Proofs.Ytgcllbelgakjgaa
