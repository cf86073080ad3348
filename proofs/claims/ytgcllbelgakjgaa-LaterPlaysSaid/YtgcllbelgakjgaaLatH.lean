/- Later: both queues drained. Later: a list copied with room behind it. Later: a step. Later: the law's steps, opened. Later: the law's state between two steps. -/
import Derived.Test.YtgcllbelgakjgaaLatG
set_option linter.unusedSimpArgs false
set_option linter.unusedVariables false
namespace Go.Proofs.Ytgcllbelgakjgaa
open Go.Vc Go.Sort
variable {K : Value → Heap → Prop} {h : Heap}

/-- A step. -/
structure Stp where
  kind : Int
  leave : Int
  lv : Value
  l : List (Int × Int)
  x : Int × Int
  n : Int
def stpT : Nat := 59
def stpC (t : Stp) : Array Value := #[.int .i64 t.kind, .int .i64 t.leave, t.lv, .int .i64 t.x.1, .int .i64 t.x.2, .int .i64 t.n]
def stpV (t : Stp) : Value := .agg (stpC t)
structure Stp.ok (h : Heap) (t : Stp) : Prop where
  kind : i64 t.kind
  leave : i64 t.leave
  l : Rws h t.lv t.l
  x : i64 t.x.1 ∧ i64 t.x.2
  n : i64 t.n

set_option maxHeartbeats 4000000 in
theorem drain_c {q p : Nat} {s : Lq} {v : Value} {L : List Rn} {t : Stp} (a : Bo h q s p v L) (ht : t.ok h)
    (H : ∀ s' v' L' h', BUpd h h' q s s' p v v' L' → K (.bool true) h') : CallsH Try.prog 50 #[ptrV q, ptrV p, stpV t] h K ⟨⟩ := by
  refine n50_calls ?_
  unfold n50 stpV stpC ptrV
  obtain ⟨oa, oc, ov, hoc⟩ := ht.l.form
  rw [ov]
  simp (disch := omega)
  have hlt : ∀ b, foot q s b → b < h.size := fun b hb => a.st.lt hb
  have hpl := a.lt
  have vlt : ∀ b, blkV v = some b → b < h.size := fun b hb => a.doc.own.lt hb
  have hn := ht.n
  have hle := ht.leave
  have stc : stpC t = #[.int .i64 t.kind, .int .i64 t.leave, .slice oa t.l.length oc, .int .i64 t.x.1, .int .i64 t.x.2, .int .i64 t.n] := by unfold stpC; rw [ov]
  refine (⟨_, rfl⟩ : ∃ f, f = ((h.push (.cells #[.pointer (some ⟨p, 0, none⟩)] 51)).push (.cells #[.int .i64 t.kind, .int .i64 t.leave, .slice oa t.l.length oc, .int .i64 t.x.1, .int .i64 t.x.2, .int .i64 t.n] stpT)).push (.cells #[.bool false] 4)).elim fun g0 eg => ?_
  have e0 : Ext h g0 := by rw [eg]; exact (by repeat' (first | (with_reducible exact Ext.refl _) | (with_reducible assumption) | (with_reducible refine push_ext ?_) | (with_reducible refine hset_ext ?_ ?_) | (with_reducible refine Ext.trans ?_ (by assumption)) | omega | (simp; done) | (simp; omega) | (refine Ext.size ?_) | (refine Nat.le_succ_of_le (Ext.size ?_))))
  have b0 : g0[h.size]? = some (.cells #[.pointer (some ⟨p, 0, none⟩)] 51) := by rw [eg]; exact (get_push (by simp; omega)).trans ((get_push (by simp)).trans (get_pushed rfl))
  have b1 : g0[h.size + 1]? = some (.cells #[.int .i64 t.kind, .int .i64 t.leave, .slice oa t.l.length oc, .int .i64 t.x.1, .int .i64 t.x.2, .int .i64 t.n] stpT) := by rw [eg]; exact (get_push (by simp)).trans (get_pushed (by simp))
  have b2 : g0[h.size + 2]? = some (.cells #[.bool false] 4) := by rw [eg]; exact get_pushed (by simp)
  rw [show ((h.push (.cells #[.pointer (some ⟨p, 0, none⟩)] 51)).push (.cells #[.int .i64 t.kind, .int .i64 t.leave, .slice oa t.l.length oc, .int .i64 t.x.1, .int .i64 t.x.2, .int .i64 t.n] 59)).push (.cells #[.bool false] 4) = g0 from eg.symm]
  clear eg
  have z0 := get_some_lt b2
  rw [show h.size + 1 + 1 = h.size + 2 from rfl]
  refine Drain_o fun h1 e1 d1 d2 => ?_
  have z1 := get_some_lt d2
  unfold drainV
  simp (disch := omega)
  refine (⟨_, rfl⟩ : ∃ f, f = hset (h1.push (.cells #[.int .i64 0] 3)) ⟨h1.size, 0, none⟩ (.int .i64 0)).elim fun g2 eg => ?_
  have e2 : Ext h1 g2 := by rw [eg]; exact (by repeat' (first | (with_reducible exact Ext.refl _) | (with_reducible assumption) | (with_reducible refine push_ext ?_) | (with_reducible refine hset_ext ?_ ?_) | (with_reducible refine Ext.trans ?_ (by assumption)) | omega | (simp; done) | (simp; omega) | (refine Ext.size ?_) | (refine Nat.le_succ_of_le (Ext.size ?_))))
  have b3 : g2[h1.size]? = some (.cells #[.int .i64 0] 3) := by rw [eg]; exact (obj_set (get_pushed rfl)).trans (by simp)
  rw [← eg]
  clear eg
  have z2 := get_some_lt b3
  rw [show (.func (.func 44) #[] #[ptrV g0.size, ptrV (g0.size + 1)] : Value) = drainV g0.size (g0.size + 1) from rfl]
  have E2 := (e0.trans e1).trans e2
  have a2 := a.ext E2
  replace b0 := ((e1.trans e2).block _ (by omega)).trans b0
  replace b1 := ((e1.trans e2).block _ (by omega)).trans b1
  replace b2 := ((e1.trans e2).block _ (by omega)).trans b2
  replace d1 := (e2.block _ (by omega)).trans d1
  replace d2 := (e2.block _ (by omega)).trans d2
  have nT : ∀ b, h.size ≤ b → b ≠ h1.size → ¬ (foot q s b ∨ b = p ∨ b = h1.size) := fun b h1 h2 h3 => by
    rcases h3 with h3 | h3 | h3
    · have := hlt b h3; omega
    · omega
    · exact h2 h3
  refine JoinN_in1 (fun D g => D = consD g2.size (.tuple #[]) ∧ ∃ s8 v8, Bo g q s8 p v8 (if t.n < 1 then L else []) ∧ Mod (fun b => foot q s b ∨ b = p ∨ b = h1.size) g2 g ∧ (∀ b, foot q s8 b → foot q s b ∨ g2.size + 2 ≤ b) ∧ (∀ b, blkV v8 = some b → blkV v = some b ∨ g2.size + 2 ≤ b) ∧ g[g2.size]? = some (.deferred (some []))) (fun kk hkk => ?_) (fun D g12 hD => ?_)
  · refine JoinN.mk ?_
    by_cases hn1 : t.n < 1
    · rw [if_pos hn1] at hkk
      refine RangeDx d1 d2 (fun K0 g eg hK => Next_c (a2.st.ext eg) hn (fun h' e' _ => hK h' 2 e' (.inr rfl)) (fun s' h' h1 => by omega) (fun x L0 s' h' h1 => by omega)) (fun g oE e z d => ?_)
      have mE := Mod.put g (g2.size + 1) oE
      have mE2 : Mod (fun b => b = g2.size + 1) g2 (g.setIfInBounds (g2.size + 1) oE) := (Mod.of_ext e).trans mE (fun b _ e => e)
      refine hkk _ _ ⟨rfl, s, v, a2.mod mE2 (fun b hb e => by have := hlt b hb; omega) (by omega) (fun b hb e => by have := vlt b hb; omega), mE2.mono (fun b hb e => by omega), fun b => .inl, fun b => .inl, (mE.block _ (get_some_lt d) (by omega)).trans d⟩
    · rw [if_neg hn1] at hkk
      refine RangeD (q := q) (by omega) hn s L (fun s8 R g => ∃ (v8 : Value) (k : Nat), Bo g q s8 p v8 R ∧ Mod (fun b => foot q s b ∨ b = p ∨ b = h1.size) g2 g ∧ (∀ b, foot q s8 b → foot q s b ∨ g2.size + 2 ≤ b) ∧ (∀ b, blkV v8 = some b → blkV v = some b ∨ g2.size + 2 ≤ b) ∧ g[g2.size]? = some (.deferred (some [])) ∧ g2.size + 2 ≤ g.size ∧ k < 1000 ∧ g[h1.size]? = some (.cells #[.int .i64 k] 3))
        (fun g => ∃ s8 v8 R, Bo g q s8 p v8 R ∧ Mod (fun b => foot q s b ∨ b = p ∨ b = h1.size ∨ b = h.size + 2) g2 g ∧ (∀ b, foot q s8 b → foot q s b ∨ g2.size + 2 ≤ b) ∧ (∀ b, blkV v8 = some b → blkV v = some b ∨ g2.size + 2 ≤ b) ∧ g[g2.size]? = some (.deferred (some [])) ∧ g2.size + 2 ≤ g.size ∧ g[h.size + 2]? = some (.cells #[.bool true] 4)) ?_ ?_ ?_ ?_ ?_
      · intro g e z d
        exact ⟨v, 0, a2.ext e, .of_ext e, fun b => .inl, fun b => .inl, d, by omega, by omega, (e.block _ z2).trans b3⟩
      · rintro s8 R g ⟨v8, k, c1, c2, c3, c4, c5, c6, c7, c8⟩
        refine ⟨(c2.block _ (get_some_lt d1) (nT _ (by omega) (by omega))).trans d1, (c2.block _ (get_some_lt d2) (nT _ (by omega) (by omega))).trans d2, c1.st, fun hf => ?_⟩
        rcases c3 _ hf with h9 | h9
        · have := hlt _ h9; omega
        · omega
      · rintro x R g g' s8 s9 oR oB J X ⟨v8, k, c1, c2, c3, c4, c5, c6, c7, c8⟩ a8 u9 hl9 hoR hoB hX hJ
        have c9 : ∀ b, foot q s9 b → foot q s b ∨ g2.size + 2 ≤ b := fun b hb => (u9.foot b hb).elim (c3 b) (fun h9 => .inr (by omega))
        have m9 : Mod (fun b => foot q s b ∨ b = p ∨ b = h1.size) g2 g' := c2.trans u9.mod (fun b hb hf => .inl ((c3 b hf).resolve_right (by omega)))
        have nf8 : ∀ b, h.size ≤ b → b < g2.size + 2 → ¬ foot q s8 b := fun b h1 h2 hf => (c3 _ hf).elim (fun h9 => by have := hlt _ h9; omega) (fun h9 => by omega)
        have nf9 : ∀ b, h.size ≤ b → b < g2.size + 2 → ¬ foot q s9 b := fun b h1 h2 hf => (c9 _ hf).elim (fun h9 => by have := hlt _ h9; omega) (fun h9 => by omega)
        have nv8 : ∀ b, h.size ≤ b → b < g2.size + 2 → ¬ blkV v8 = some b := fun b h1 h2 hf => (c4 _ hf).elim (fun h9 => by have := vlt _ h9; omega) (fun h9 => by omega)
        have dg := (u9.mod.block _ (get_some_lt c5) (nf8 _ (by omega) (by omega))).trans c5
        have ng := (u9.mod.block _ (get_some_lt c8) (nf8 _ (by omega) (by omega))).trans c8
        have doc := c1.doc1 u9
        have zu := u9.mod.size
        have pf9 : ¬ foot q s9 p := fun hf => (u9.foot p hf).elim c1.pf (fun e => by have := c1.lt; omega)
        have vf9 : ∀ c, blkV v8 = some c → ¬ foot q s9 c := fun c hc hf => (u9.foot c hf).elim (c1.vf c hc) (fun e => by have := c1.doc.own.lt hc; omega)
        obtain ⟨n', hn'⟩ : ∃ n', n' = min x.len t.n.toNat := ⟨_, rfl⟩
        rw [← hn'] at hX u9 ⊢
        have hgv : getV [rwA (rnP ⟨x.at_, n'⟩)] 0 = .agg #[.int .i64 (x.at_ : Nat), .int .i64 (n' : Nat)] := rfl
        rw [hgv]
        clear hgv
        simp (disch := omega)
        refine (⟨_, rfl⟩ : ∃ f, f = hset (hset (Array.push g' (.cells #[.int .i64 0, .int .i64 0] runT)) ⟨g'.size, 0, none⟩ (.int .i64 (x.at_ : Nat))) ⟨g'.size, 1, none⟩ (.int .i64 (n' : Nat))).elim fun gy egy => ?_
        have ey : Ext g' gy := by rw [egy]; exact (by repeat' (first | (with_reducible exact Ext.refl _) | (with_reducible assumption) | (with_reducible refine push_ext ?_) | (with_reducible refine hset_ext ?_ ?_) | (with_reducible refine Ext.trans ?_ (by assumption)) | omega | (simp; done) | (simp; omega) | (refine Ext.size ?_) | (refine Nat.le_succ_of_le (Ext.size ?_))))
        have by_ : gy[g'.size]? = some (.cells #[.int .i64 (x.at_ : Nat), .int .i64 (n' : Nat)] runT) := by
          rw [egy]
          refine (obj_set (obj_set (get_pushed rfl))).trans ?_
          simp
        rw [show hset (hset (Array.push g' (.cells #[.int .i64 0, .int .i64 0] 24)) ⟨g'.size, 0, none⟩ (.int .i64 (x.at_ : Nat))) ⟨g'.size, 1, none⟩ (.int .i64 (n' : Nat)) = gy from egy.symm]
        clear egy
        have hll := get_some_lt hl9
        refine ⟨(ey.block _ hll).trans hl9, ?_⟩
        have mB := Mod.put gy (g2.size + 1) oB
        refine (⟨_, rfl⟩ : ∃ f, f = gy.setIfInBounds (g2.size + 1) oB).elim fun gB egB => ?_
        rw [← egB] at mB ⊢
        have zy := ey.size
        have lB : gB[g2.size + 1]? = some oB := by rw [egB, get_put2 (by omega), if_pos rfl]
        clear egB
        have zB := mB.size
        have stay : ∀ b o, g'[b]? = some o → b ≠ g2.size + 1 → gB[b]? = some o := fun b o hb hne => (mB.block _ (by have := get_some_lt hb; omega) hne).trans ((ey.block _ (get_some_lt hb)).trans hb)
        have bby := (mB.block _ (get_some_lt by_) (by omega)).trans by_
        have s0 := stay _ _ ((m9.block _ (get_some_lt b0) (nT _ (by omega) (by omega))).trans b0) (by omega)
        have s1 := stay _ _ ((m9.block _ (get_some_lt b1) (nT _ (by omega) (by omega))).trans b1) (by omega)
        have s2 := stay _ _ ((m9.block _ (get_some_lt b2) (nT _ (by omega) (by omega))).trans b2) (by omega)
        have s3 := stay _ _ ng (by omega)
        have dB := stay _ _ dg (by omega)
        have docB : Rl gB p v8 (x :: R) := (doc.ext ey).mod mB (by omega) (fun b hb e => nv8 b (by omega) (by omega) hb)
        simp (disch := omega) [cellOf (i := 0) s0 rfl, cellOf (i := 5) s1 rfl]
        refine rNext_c docB hn (fun h' e' h9 => by omega) (fun h' e' _ h9 => by cases h9) (fun x' L0 v9 g3 _ hxl u3 => ?_)
        cases hxl
        rw [← hn'] at u3 ⊢
        unfold rwA rnP
        simp (disch := omega)
        have z3 := u3.mod.size
        have stay3 : ∀ b o, gB[b]? = some o → b ≠ p → g3[b]? = some o := fun b o hb hne => (u3.mod.block _ (get_some_lt hb) hne).trans hb
        have hbz : g'.size < gB.size := get_some_lt bby
        have hv9 : ∀ b, h.size ≤ b → b < g2.size + 2 → ¬ blkV v9 = some b := fun b h1 h2 hf => (u3.blk _ hf).elim (nv8 b h1 h2) (fun e => by omega)
        have y9 := stay3 _ _ bby (by omega)
        have t0 := stay3 _ _ s0 (by omega)
        have t1 := stay3 _ _ s1 (by omega)
        have t2 := stay3 _ _ s2 (by omega)
        have t3 := stay3 _ _ s3 (by omega)
        have td := stay3 _ _ dB (by omega)
        have tl := stay3 _ _ lB (by omega)
        have u0 := cellOf (i := 0) y9 rfl
        have u1 := cellOf (i := 1) y9 rfl
        have w1 := cellOf (i := 1) t1 rfl
        have w3 := cellOf (i := 0) t3 rfl
        have f2 : hfrozen g3 ⟨h.size + 2, 0, none⟩ = false := frzOf t2
        have f3 : hfrozen g3 ⟨h1.size, 0, none⟩ = false := frzOf t3
        have hne1 : ¬ (g3.size = g'.size) := by omega
        have hne2 : ¬ (g'.size = g3.size) := by omega
        have hne3 : ¬ (g3.size = h1.size) := by omega
        have hne4 : ¬ (h1.size = g3.size) := by omega
        have hne5 : ¬ (h.size + 2 = g3.size) := by omega
        have hne6 : ¬ (h.size + 1 = g3.size) := by omega
        have hne7 : ¬ (h.size + 1 = h1.size) := by omega
        have hne8 : ¬ (h1.size = h.size + 1) := by omega
        have hne9 : ¬ (h1.size = h.size + 2) := by omega
        have B9 : Bo g3 q s9 p v9 (lessR ⟨x.at_, n'⟩ (x :: R)) := by
          refine ⟨((u9.st.ext ey).mod mB (fun b hb e => ?_)).mod u3.mod (fun b hb e => ?_), u3.st, pf9, fun c hc hf => ?_⟩
          · have e' : b = g2.size + 1 := e
            exact nf9 b (by omega) (by omega) hb
          · have e' : b = p := e
            exact pf9 (e' ▸ hb)
          · rcases u3.blk c hc with e | e
            · exact vf9 c e hf
            · have := u9.st.lt hf; omega
        have eZ : Ext g3 (hset (hset (Array.push g3 (.cells #[.int .i64 0, .int .i64 0] 24)) ⟨g3.size, 0, none⟩ (.int .i64 (x.at_ : Nat))) ⟨g3.size, 1, none⟩ (.int .i64 (n' : Nat))) := (by repeat' (first | (with_reducible exact Ext.refl _) | (with_reducible assumption) | (with_reducible refine push_ext ?_) | (with_reducible refine hset_ext ?_ ?_) | (with_reducible refine Ext.trans ?_ (by assumption)) | omega | (simp; done) | (simp; omega) | (refine Ext.size ?_) | (refine Nat.le_succ_of_le (Ext.size ?_))))
        have mC : Mod (fun b => b = h1.size) g3 (hset (hset (hset (Array.push g3 (.cells #[.int .i64 0, .int .i64 0] 24)) ⟨g3.size, 0, none⟩ (.int .i64 (x.at_ : Nat))) ⟨g3.size, 1, none⟩ (.int .i64 (n' : Nat))) ⟨h1.size, 0, none⟩ (.int .i64 ((k : Int) + 1))) := (Mod.of_ext eZ).trans (Mod.set (hset (hset (Array.push g3 (.cells #[.int .i64 0, .int .i64 0] 24)) ⟨g3.size, 0, none⟩ (.int .i64 (x.at_ : Nat))) ⟨g3.size, 1, none⟩ (.int .i64 (n' : Nat))) ⟨h1.size, 0, none⟩ (.int .i64 ((k : Int) + 1))) (fun b _ e => e)
        have nC : (hset (hset (hset (Array.push g3 (.cells #[.int .i64 0, .int .i64 0] 24)) ⟨g3.size, 0, none⟩ (.int .i64 (x.at_ : Nat))) ⟨g3.size, 1, none⟩ (.int .i64 (n' : Nat))) ⟨h1.size, 0, none⟩ (.int .i64 ((k : Int) + 1)))[h1.size]? = some (.cells #[.int .i64 ((k : Int) + 1)] 3) := (obj_set ((eZ.block _ (get_some_lt t3)).trans t3)).trans (by simp)
        have tC := (mC.block _ (get_some_lt t2) (by omega)).trans t2
        have dC := (mC.block _ (get_some_lt td) (by omega)).trans td
        have lC := (mC.block _ (get_some_lt tl) (by omega)).trans tl
        have BC := B9.mod mC (fun b hb e => nf9 b (by omega) (by omega) hb) (by omega) (fun b hb e => hv9 b (by omega) (by omega) hb)
        have zC := mC.size
        have MC : Mod (fun b => (foot q s b ∨ b = p ∨ b = h1.size) ∨ b = g2.size + 1) g2 (hset (hset (hset (Array.push g3 (.cells #[.int .i64 0, .int .i64 0] 24)) ⟨g3.size, 0, none⟩ (.int .i64 (x.at_ : Nat))) ⟨g3.size, 1, none⟩ (.int .i64 (n' : Nat))) ⟨h1.size, 0, none⟩ (.int .i64 ((k : Int) + 1))) := (((Mod.extIn m9 ey).mono fun b _ e => .inl e).trans mB (fun b _ e => .inr e) |>.trans u3.mod (fun b _ e => .inl (.inr (.inl e)))).trans mC (fun b _ e => .inl (.inr (.inr e)))
        have vC : ∀ b, blkV v9 = some b → blkV v = some b ∨ g2.size + 2 ≤ b := fun b hb => (u3.blk b hb).elim (c4 b) (fun e => .inr (by omega))
        have ret : J .ret (hset (hset (hset (hset (Array.push g3 (.cells #[.int .i64 0, .int .i64 0] 24)) ⟨g3.size, 0, none⟩ (.int .i64 (x.at_ : Nat))) ⟨g3.size, 1, none⟩ (.int .i64 (n' : Nat))) ⟨h1.size, 0, none⟩ (.int .i64 ((k : Int) + 1))) ⟨h.size + 2, 0, none⟩ (.bool true)) := by
          generalize hset (hset (hset (Array.push g3 (.cells #[.int .i64 0, .int .i64 0] 24)) ⟨g3.size, 0, none⟩ (.int .i64 (x.at_ : Nat))) ⟨g3.size, 1, none⟩ (.int .i64 (n' : Nat))) ⟨h1.size, 0, none⟩ (.int .i64 ((k : Int) + 1)) = gC at *
          have mD : Mod (fun b => b = h.size + 2) gC (hset gC ⟨h.size + 2, 0, none⟩ (.bool true)) := Mod.set gC ⟨h.size + 2, 0, none⟩ (.bool true)
          have zD := mD.size
          exact hJ _ ⟨s9, v9, _, BC.mod mD (fun b hb e => nf9 b (by omega) (by omega) hb) (by omega) (fun b hb e => hv9 b (by omega) (by omega) hb), ((MC.mono (T := fun b => foot q s b ∨ b = p ∨ b = h1.size ∨ b = h.size + 2) fun b hb e => by
            rcases e with (e | e | e) | e
            · exact .inl e
            · exact .inr (.inl e)
            · exact .inr (.inr (.inl e))
            · omega).trans mD (fun b _ e => .inr (.inr (.inr e)))), c9, vC, (mD.block _ (get_some_lt dC) (by omega)).trans dC, by omega, (obj_set tC).trans (by simp)⟩ ((mD.block _ (get_some_lt lC) (by omega)).trans lC)
        have next : k + 1 < 1000 → (hset (hset (hset (Array.push g3 (.cells #[.int .i64 0, .int .i64 0] 24)) ⟨g3.size, 0, none⟩ (.int .i64 (x.at_ : Nat))) ⟨g3.size, 1, none⟩ (.int .i64 (n' : Nat))) ⟨h1.size, 0, none⟩ (.int .i64 ((k : Int) + 1)))[g2.size + 1]? = some oB ∧ X ((hset (hset (hset (Array.push g3 (.cells #[.int .i64 0, .int .i64 0] 24)) ⟨g3.size, 0, none⟩ (.int .i64 (x.at_ : Nat))) ⟨g3.size, 1, none⟩ (.int .i64 (n' : Nat))) ⟨h1.size, 0, none⟩ (.int .i64 ((k : Int) + 1))).setIfInBounds (g2.size + 1) oR) := by
          intro hk
          generalize hset (hset (hset (Array.push g3 (.cells #[.int .i64 0, .int .i64 0] 24)) ⟨g3.size, 0, none⟩ (.int .i64 (x.at_ : Nat))) ⟨g3.size, 1, none⟩ (.int .i64 (n' : Nat))) ⟨h1.size, 0, none⟩ (.int .i64 ((k : Int) + 1)) = gC at *
          have mE := Mod.put gC (g2.size + 1) oR
          have zE := mE.size
          refine ⟨lC, hX s9 _ ⟨v9, k + 1, BC.mod mE (fun b hb e => ?_) (fun e => ?_) (fun b hb e => ?_), (MC.trans mE (fun b _ e => .inr e)).mono (fun b hb e => e.resolve_right (by omega)), c9, vC, (mE.block _ (get_some_lt dC) (by omega)).trans dC, by omega, hk, ?_⟩ (by rw [get_put2 (get_some_lt lC), if_pos rfl])⟩
          · have e' : b = g2.size + 1 := e
            exact nf9 b (by omega) (by omega) hb
          · have e' : p = g2.size + 1 := e
            omega
          · have e' : b = g2.size + 1 := e
            exact hv9 b (by omega) (by omega) hb
          · rw [(mE.block _ (get_some_lt nC) (by omega)), nC]
            simp
        clear hX hJ
        have w22 := cellOf (i := 0) t2 rfl
        have w2 : hfrozen (hset (hset (hset (Array.push g3 (.cells #[.int .i64 0, .int .i64 0] 24)) ⟨g3.size, 0, none⟩ (.int .i64 (x.at_ : Nat))) ⟨g3.size, 1, none⟩ (.int .i64 (n' : Nat))) ⟨h1.size, 0, none⟩ (.int .i64 ((k : Int) + 1))) ⟨h.size + 2, 0, none⟩ = false := frzOf tC
        by_cases hle1 : (k : Int) + 1 = t.leave
        · simp (disch := omega) [u0, u1, w1, w3, w22, f2, f3, hne1, hne2, hne3, hne4, hne5, hne6, hne7, hne8, hne9, hle1]
          rw [← hle1]
          exact ret
        · by_cases hk1 : k + 1 = 1000
          · simp (disch := omega) [u0, u1, w1, w3, w22, f2, f3, hne1, hne2, hne3, hne4, hne5, hne6, hne7, hne8, hne9, hle1, hk1]
            exact ret
          · simp (disch := omega) [u0, u1, w1, w3, w22, f2, f3, hne1, hne2, hne3, hne4, hne5, hne6, hne7, hne8, hne9, hle1, hk1]
            exact ⟨(Array.getElem?_eq_some_iff.1 (next (by omega)).1).2, (next (by omega)).2⟩
      · rintro g g' s8 s9 oE oR ⟨v8, k, c1, c2, c3, c4, c5, c6, c7, c8⟩ a8 u9 hl9 hoR
        have doc := c1.doc1 u9
        have c9 : ∀ b, foot q s9 b → foot q s b ∨ g2.size + 2 ≤ b := fun b hb => (u9.foot b hb).elim (c3 b) (fun h9 => .inr (by omega))
        have m9 : Mod (fun b => foot q s b ∨ b = p ∨ b = h1.size) g2 g' := c2.trans u9.mod (fun b hb hf => .inl ((c3 b hf).resolve_right (by omega)))
        have nf : ¬ foot q s8 g2.size := fun hf => (c3 _ hf).elim (fun h9 => by have := hlt _ h9; omega) (fun h9 => by omega)
        have dg := (u9.mod.block _ (get_some_lt c5) nf).trans c5
        have mE := Mod.put g' (g2.size + 1) oE
        have zu := u9.mod.size
        have hb9 : Bo g' q s9 p v8 [] := ⟨u9.st, doc, fun hf => (u9.foot p hf).elim c1.pf (fun e => by have := c1.lt; omega), fun c hc hf => (u9.foot c hf).elim (c1.vf c hc) (fun e => by have := c1.doc.own.lt hc; omega)⟩
        refine hkk _ _ ⟨rfl, s9, v8, hb9.mod mE (fun b hb e => ?_) (fun e => ?_) (fun b hb e => ?_), m9.trans mE (fun b hb e => by have e' : b = g2.size + 1 := e; omega), c9, c4, (mE.block _ (get_some_lt dg) (by omega)).trans dg⟩
        · have e' : b = g2.size + 1 := e
          rcases c9 b hb with h9 | h9
          · have := hlt b h9; omega
          · omega
        · have e' : p = g2.size + 1 := e; omega
        · have e' : b = g2.size + 1 := e
          rcases c4 b hb with h9 | h9
          · have := vlt b h9; omega
          · omega
      · rintro g oE oR ⟨s8, v8, R, c1, c2, c3, c4, c5, c6, c7⟩ hl9 hoR
        have mE := Mod.put g (g2.size + 1) oE
        have d2 := (mE.block _ (get_some_lt c5) (by omega)).trans c5
        refine RetD_one' d2 ?_
        have n2 := (mE.block _ (get_some_lt c7) (by omega)).trans c7
        have mF := Mod.put (g.setIfInBounds (g2.size + 1) oE) g2.size (.deferred none)
        have n3 := (mF.block _ (get_some_lt n2) (by omega)).trans n2
        simp (disch := omega) [cellOf (i := 0) n3 rfl]
        have mm : Mod (fun b => b = g2.size + 1 ∨ b = g2.size) g ((g.setIfInBounds (g2.size + 1) oE).setIfInBounds g2.size (.deferred none)) := (mE.mono fun b _ e => .inl e).trans mF (fun b _ e => .inr e)
        exact H s8 v8 R _ ⟨c1.mod mm (fun b hb e => by
          rcases c3 b hb with h9 | h9
          · have := hlt b h9; omega
          · omega) (by omega) (fun b hb e => by
          rcases c4 b hb with h9 | h9
          · have := vlt b h9; omega
          · omega), (((Mod.of_ext E2).trans c2 (fun b hb e => by rcases e with e | e | e | e; exact .inl e; exact .inr e; omega; omega)).trans mm (fun b hb e => by omega)), fun b hb => (c3 b hb).imp (fun x => x) (fun e => by omega), fun b hb => (c4 b hb).imp (fun x => x) (fun e => by omega)⟩
  · obtain ⟨rfl, s8, v8, c1, c2, c3, c4, c5⟩ := hD
    have m1 := (c2.block _ (get_some_lt b1) (nT _ (by omega) (by omega))).trans b1
    have m0 := (c2.block _ (get_some_lt b0) (nT _ (by omega) (by omega))).trans b0
    have m2 := (c2.block _ (get_some_lt b2) (nT _ (by omega) (by omega))).trans b2
    have f2 : hfrozen g12 ⟨h.size + 2, 0, none⟩ = false := frzOf m2
    have x2 := cellOf (i := 0) m2 rfl
    have mD : Mod (fun b => b = h.size + 2) g12 (hset g12 ⟨h.size + 2, 0, none⟩ (.bool true)) := Mod.set g12 ⟨h.size + 2, 0, none⟩ (.bool true)
    have dD := (mD.block _ (get_some_lt c5) (by omega)).trans c5
    have tD : (hset g12 ⟨h.size + 2, 0, none⟩ (.bool true))[h.size + 2]? = some (.cells #[.bool true] 4) := (obj_set m2).trans (by simp)
    have mF := Mod.put (hset g12 ⟨h.size + 2, 0, none⟩ (.bool true)) g2.size (.deferred none)
    have tF := (mF.block _ (get_some_lt tD) (by omega)).trans tD
    have mm : Mod (fun b => b = h.size + 2 ∨ b = g2.size) g12 ((hset g12 ⟨h.size + 2, 0, none⟩ (.bool true)).setIfInBounds g2.size (.deferred none)) := (mD.mono fun b _ e => .inl e).trans mF (fun b _ e => .inr e)
    have fin : ∀ R, Bo g12 q s8 p v8 R → K (.bool true) ((hset g12 ⟨h.size + 2, 0, none⟩ (.bool true)).setIfInBounds g2.size (.deferred none)) := fun R c1 => H s8 v8 R _ ⟨c1.mod mm (fun b hb e => by
        rcases c3 b hb with h9 | h9
        · have := hlt b h9; omega
        · omega) (by omega) (fun b hb e => by
        rcases c4 b hb with h9 | h9
        · have := vlt b h9; omega
        · omega), (((Mod.of_ext E2).trans c2 (fun b hb e => by rcases e with e | e | e; exact .inl e; exact .inr e; omega)).trans mm (fun b hb e => by omega)), fun b hb => (c3 b hb).imp (fun x => x) (fun e => by omega), fun b hb => (c4 b hb).imp (fun x => x) (fun e => by omega)⟩
    by_cases hn1 : t.n < 1
    · simp (disch := omega) [cellOf (i := 5) m1 rfl, x2, f2]
      refine RetD_one' dD ?_
      simp (disch := omega) [cellOf (i := 0) tF rfl]
      exact fin _ c1
    · rw [if_neg hn1] at c1
      have k0 := cellOf (i := 0) c1.doc.cells rfl
      obtain ⟨ya, yc, rfl, hyc⟩ := c1.doc.form
      simp (disch := omega) [cellOf (i := 5) m1 rfl, cellOf (i := 0) m0 rfl, x2, f2, k0]
      refine RetD_one' dD ?_
      simp (disch := omega) [cellOf (i := 0) tF rfl]
      exact fin _ c1
end Go.Proofs.Ytgcllbelgakjgaa
set_option linter.unusedSimpArgs false
set_option linter.unusedVariables false
namespace Go.Proofs.Ytgcllbelgakjgaa
open Go.Vc Go.Sort
variable {K : Value → Heap → Prop} {h : Heap}

theorem app_L {m : Nat} {v w : Value} {l : List (Int × Int)} (hv : v = .slice (some ⟨m, 0, none⟩) 0 0) (hm : h[m]? = some (.cells #[] runT)) (rv : Rws h w l) (hl : l.length < 100000) {hb : Heap} (e : Ext hb h) (hmb : hb.size ≤ m)
    (H : ∀ v' h', OwnT runT 2 h' v' (l.flatMap rwV) → Mod (fun b => b = m) h h' → (∀ b, blkV v' = some b → hb.size ≤ b) → K v' h') :
    Hp Try.prog false (Go.Builtin.append_ #[22, 22] 22 #[v, w]) K h ⟨⟩ := by
  subst hv
  have ho : OwnT runT 2 h (.slice (some ⟨m, 0, none⟩) 0 0) [] := .inr ⟨m, 0, 0, [], rfl, rfl, Nat.le_refl _, by simpa using hm, rfl⟩
  refine Hp_appendT (e := runT) (s := 2) (by_ := 16) (n := 0) (k := l.length) (news := l.flatMap rwV) (by kernel_rfl) (by kernel_rfl) ho rfl (by omega) rv.src (rwV_one l) (by omega) (by omega) fun v' h3 hO hM hF _ => ?_
  refine H v' h3 (by simpa using hO) (hM.mono fun b _ e => by cases e; rfl) (fun b hb' => (hF b hb').elim (fun e => by cases e; exact hmb) (fun e' => by have := e.size; omega))
theorem app_77 {m : Nat} {v : Value} {l : List (Int × Int)} (hv : OwnT runT 2 h v (l.flatMap rwV)) (hm : h[m]? = some (.cells #[.int .i64 77, .int .i64 0] runT)) (hl : l.length < 100000) {hb : Heap} (e : Ext hb h) (hvb : ∀ b, blkV v = some b → hb.size ≤ b)
    (H : ∀ b c h', OwnT runT 2 h' (.slice (some ⟨b, 0, none⟩) (l.length + 1) c) (l.flatMap rwV ++ [.int .i64 77, .int .i64 0]) → Ext hb h' → hb.size ≤ b → K (.slice (some ⟨b, 0, none⟩) (l.length + 1) c) h') :
    Hp Try.prog false (Go.Builtin.append_ #[22, 22] 22 #[v, .slice (some ⟨m, 0, none⟩) 1 1]) K h ⟨⟩ := by
  have hs : Src 2 h (.slice (some ⟨m, 0, none⟩) 1 1) 1 [.int .i64 77, .int .i64 0] := .inr (.inl ⟨⟨m, 0, none⟩, 1, rfl, rfl, fun i hi => by
    have : i = 0 ∨ i = 1 := by simp at hi; omega
    rcases this with rfl | rfl
    · exact cellOf (i := 0) hm rfl
    · exact cellOf (i := 1) hm rfl⟩)
  refine Hp_appendT (e := runT) (s := 2) (by_ := 16) (n := l.length) (k := 1) (news := [.int .i64 77, .int .i64 0]) (by kernel_rfl) (by kernel_rfl) hv (rwV_len l) (by omega) hs (by simp [one]) (by omega) (by omega) fun v' h3 hO hM hF hB => ?_
  obtain ⟨b, c, rfl⟩ := hB (by simp)
  exact H b c h3 hO (hM.ext_from e (fun b' hb' e' => by have := hvb b' e'; omega)) ((hF b rfl).elim (hvb b) (fun e' => by have := e.size; omega))
theorem rws_own {b c : Nat} {l : List (Int × Int)} (o : OwnT runT 2 h (.slice (some ⟨b, 0, none⟩) (l.length + 1) c) (l.flatMap rwV ++ [.int .i64 77, .int .i64 0])) (hok : ∀ x ∈ l, i64 x.1 ∧ i64 x.2) (hl : l.length < 100000) : Rws h (.slice (some ⟨b, 0, none⟩) l.length c) l ∧ l.length + 1 ≤ c ∧ hcell h ⟨b, l.length * 2, none⟩ = some (.int .i64 77) := by
  have hc : l.length + 1 ≤ c := by
    obtain ⟨a, n, c', e, -, h2, -⟩ := o.form (by omega)
    cases e; exact h2
  have hlen := rwV_len l
  refine ⟨⟨.inr (.inl ⟨⟨b, 0, none⟩, c, rfl, hlen, fun i hi => ?_⟩), ⟨_, _, rfl, by omega⟩, by omega, hok⟩, hc, ?_⟩
  · have := (o.cell (i := i) (by rw [List.length_append]; omega)).1
    rw [List.getElem_append_left hi] at this
    rw [elt_mk, Nat.zero_add]
    exact this
  · have := (o.cell (i := l.length * 2) (by rw [List.length_append, hlen]; simp)).1
    rw [List.getElem_append_right (by omega)] at this
    simpa [hlen] using this
theorem refSameR_c {v w : Value} {l : List (Int × Int)} (a : Rws h v l) (b : Rws h w l) (H : K (.bool true) h) : CallsH Try.prog 27 #[v, w] h K ⟨⟩ := by
  refine n27_calls ?_
  unfold n27
  obtain ⟨va, vc, rfl, hvc⟩ := a.form
  obtain ⟨wa, wc, rfl, hwc⟩ := b.form
  have hl := a.few
  simp (disch := omega)
  refine loopX1 (α := Nat) (fun i => .int .i64 i) (fun i g => g = h ∧ i ≤ l.length) (fun i => l.length - i) 0 rfl ⟨rfl, by omega⟩ ?_
  rintro i g ⟨rfl, hi⟩ X hX
  by_cases hin : i < l.length
  · obtain ⟨ad, c', hv, -, c0, c1⟩ := a.cell hin
    obtain ⟨e9, -⟩ : va = some ad ∧ vc = c' := by cases hv; exact ⟨rfl, rfl⟩
    subst e9
    obtain ⟨ad2, c2', hv2, -, d0, d1⟩ := b.cell hin
    obtain ⟨e9, -⟩ : wa = some ad2 ∧ wc = c2' := by cases hv2; exact ⟨rfl, rfl⟩
    subst e9
    simp (disch := omega) [c0, c1, d0, d1]
    exact hX (i + 1) _ _ (by simp) ⟨rfl, hin⟩ (by omega)
  · simp (disch := omega)
    exact H
end Go.Proofs.Ytgcllbelgakjgaa
set_option linter.unusedSimpArgs false
set_option linter.unusedVariables false
namespace Go.Proofs.Ytgcllbelgakjgaa
open Go.Vc Go.Sort
variable {K : Value → Heap → Prop} {h : Heap}

theorem Rws.zero {h' : Heap} {v : Value} (a : Rws h v []) : Rws h' v [] := by
  refine ⟨?_, a.form, a.few, a.ok⟩
  rcases a.src with e | ⟨ad, c, rfl, e2, e3⟩ | ⟨l, rfl, e⟩
  · exact .inl e
  · exact .inr (.inl ⟨ad, c, rfl, e2, fun i hi => by simp at hi⟩)
  · obtain ⟨_, _, e, _⟩ := a.form; cases e
theorem Stp.ok.ext {h' : Heap} {t : Stp} (a : t.ok h) (e : Ext h h') : t.ok h' := ⟨a.kind, a.leave, a.l.ext e, a.x, a.n⟩
set_option maxHeartbeats 4000000 in
theorem step_c {q p : Nat} {s : Lq} {v : Value} {L : List Rn} {t : Stp} (a : Bo h q s p v L) (ht : t.ok h) (hl : t.l.length < 1000) (hlv : t.l ≠ [] → ∀ b, blkV t.lv = some b → ¬ foot q s b ∧ b ≠ p)
    (H : ∀ s' v' L' h', BUpd h h' q s s' p v v' L' → K (.bool true) h') : CallsH Try.prog 24 #[ptrV q, ptrV p, stpV t] h K ⟨⟩ := by
  refine n24_calls ?_
  unfold n24 stpV stpC ptrV
  obtain ⟨oa, oc, ov, hoc⟩ := ht.l.form
  have hll := ht.l
  have hkd := ht.kind
  rw [ov] at hll hlv ⊢
  unfold i64 at hkd
  have hlt : ∀ b, foot q s b → b < h.size := fun b hb => a.st.lt hb
  have hpl := a.lt
  have vlt : ∀ b, blkV v = some b → b < h.size := fun b hb => a.doc.own.lt hb
  simp (disch := omega)
  refine (⟨_, rfl⟩ : ∃ f, f = h.push (.cells #[.int .i64 t.kind, .int .i64 t.leave, .slice oa t.l.length oc, .int .i64 t.x.1, .int .i64 t.x.2, .int .i64 t.n] stpT)).elim fun g0 eg => ?_
  have e0 : Ext h g0 := by rw [eg]; exact (by repeat' (first | (with_reducible exact Ext.refl _) | (with_reducible assumption) | (with_reducible refine push_ext ?_) | (with_reducible refine hset_ext ?_ ?_) | (with_reducible refine Ext.trans ?_ (by assumption)) | omega | (simp; done) | (simp; omega) | (refine Ext.size ?_) | (refine Nat.le_succ_of_le (Ext.size ?_))))
  have b1 : g0[h.size]? = some (.cells #[.int .i64 t.kind, .int .i64 t.leave, .slice oa t.l.length oc, .int .i64 t.x.1, .int .i64 t.x.2, .int .i64 t.n] stpT) := by rw [eg]; exact get_pushed rfl
  rw [show h.push (.cells #[.int .i64 t.kind, .int .i64 t.leave, .slice oa t.l.length oc, .int .i64 t.x.1, .int .i64 t.x.2, .int .i64 t.n] 59) = g0 from eg.symm]
  clear eg
  have a0 := a.ext e0
  have z0 := get_some_lt b1
  refine JoinN_in1 (fun v g => v = .bool (decide (t.kind = 0 ∨ t.kind = 1 ∨ t.kind = 2)) ∧ g = g0) (fun kk hkk => ?_) (fun vb g hv => ?_)
  · by_cases k0 : t.kind = 0
    · simp (disch := omega) [k0]
      exact hkk _ _ ⟨by simp [k0], rfl⟩
    · by_cases k1 : t.kind = 1
      · simp (disch := omega) [k1]
        exact hkk _ _ ⟨by simp [k1], rfl⟩
      · by_cases k2 : t.kind = 2
        · simp (disch := omega) [k2]
          exact hkk _ _ ⟨by simp [k2], rfl⟩
        · simp (disch := omega) [k0, k1, k2]
          exact hkk _ _ ⟨by simp [k0, k1, k2], rfl⟩
  obtain ⟨rfl, rfl⟩ := hv
  by_cases k012 : t.kind = 0 ∨ t.kind = 1 ∨ t.kind = 2
  · rw [decide_eq_true k012]
    simp (disch := omega)
    have nf1 : ¬ foot q s h.size := fun hf => by have := hlt _ hf; omega
    have hll0 := hll.ext e0
    have hok := hll.ok
    refine JoinN_in1 (fun m g' => ∃ b c, m = .slice (some ⟨b, 0, none⟩) t.l.length c ∧ OwnT runT 2 g' (.slice (some ⟨b, 0, none⟩) (t.l.length + 1) c) (t.l.flatMap rwV ++ [.int .i64 77, .int .i64 0]) ∧ Ext g g' ∧ g.size ≤ b) (fun kk hkk => ?_) (fun m g' hm => ?_)
    · have fin : ∀ b c h', OwnT runT 2 h' (.slice (some ⟨b, 0, none⟩) (t.l.length + 1) c) (t.l.flatMap rwV ++ [.int .i64 77, .int .i64 0]) → Ext g h' → g.size ≤ b → kk (.slice (some ⟨b, 0, none⟩) t.l.length c) h' := fun b c h' h1 h2 h3 => hkk _ _ ⟨b, c, rfl, h1, h2, h3⟩
      clear hkk
      simp (disch := omega) [cellOf (i := 2) b1 rfl]
      have cg : ∀ h', Ext g h' → hcell h' ⟨h.size, 2, none⟩ = some (.slice oa t.l.length oc) := fun h' e => cellOf (i := 2) ((e.block _ z0).trans b1) rfl
      refine ⟨⟨?_, ?_⟩, ?_⟩
      · have E0 : Ext g (g.push (.cells #[] runT)) := (by repeat' (first | (with_reducible exact Ext.refl _) | (with_reducible assumption) | (with_reducible refine push_ext ?_) | (with_reducible refine hset_ext ?_ ?_) | (with_reducible refine Ext.trans ?_ (by assumption)) | omega | (simp; done) | (simp; omega) | (refine Ext.size ?_) | (refine Nat.le_succ_of_le (Ext.size ?_))))
        refine app_L rfl (get_pushed rfl) (hll0.ext E0) (by omega) E0 (Nat.le_refl _) fun v1 h1 o1 m1 f1 => ?_
        have E1 := m1.ext_from E0 (fun b hb e => by omega)
        refine ⟨by simp (disch := omega) [cg _ E1], ?_⟩
        have E2 : Ext h1 (h1.push (.cells #[.int .i64 77, .int .i64 0] runT)) := (by repeat' (first | (with_reducible exact Ext.refl _) | (with_reducible assumption) | (with_reducible refine push_ext ?_) | (with_reducible refine hset_ext ?_ ?_) | (with_reducible refine Ext.trans ?_ (by assumption)) | omega | (simp; done) | (simp; omega) | (refine Ext.size ?_) | (refine Nat.le_succ_of_le (Ext.size ?_))))
        have hs1 : ¬ (h.size = h1.size) := by have := E1.size; omega
        simp (disch := omega) [cg _ E1, hs1]
        refine app_77 (hb := g) (o1.ext E2) (get_pushed rfl) (by omega) (E1.trans E2) f1 fun b c h2 o2 e2 f2 => ?_
        refine ⟨by simp (disch := omega) [cg _ e2], ?_⟩
        have hc := (rws_own o2 hok (by omega)).2.1
        simp (disch := omega)
        exact fin b c h2 o2 e2 f2
      · have E0 : Ext g ((g.push (.cells #[] runT)).push (.cells #[.int .i64 77, .int .i64 0] runT)) := (by repeat' (first | (with_reducible exact Ext.refl _) | (with_reducible assumption) | (with_reducible refine push_ext ?_) | (with_reducible refine hset_ext ?_ ?_) | (with_reducible refine Ext.trans ?_ (by assumption)) | omega | (simp; done) | (simp; omega) | (refine Ext.size ?_) | (refine Nat.le_succ_of_le (Ext.size ?_))))
        refine app_L rfl ((get_push (by simp)).trans (get_pushed rfl)) (hll0.ext E0) (by omega) E0 (Nat.le_refl _) fun v1 h1 o1 m1 f1 => ?_
        have E1 := m1.ext_from E0 (fun b hb e => by omega)
        have b7 := (m1.block (g.size + 1) (by simp) (by omega)).trans (get_pushed (by simp))
        refine ⟨by simp (disch := omega) [cg _ E1], ?_⟩
        refine app_77 (hb := g) o1 b7 (by omega) E1 f1 fun b c h2 o2 e2 f2 => ?_
        refine ⟨by simp (disch := omega) [cg _ e2], ?_⟩
        have hc := (rws_own o2 hok (by omega)).2.1
        simp (disch := omega)
        exact fin b c h2 o2 e2 f2
      · have E0 : Ext g ((g.push (.cells #[.int .i64 77, .int .i64 0] runT)).push (.cells #[] runT)) := (by repeat' (first | (with_reducible exact Ext.refl _) | (with_reducible assumption) | (with_reducible refine push_ext ?_) | (with_reducible refine hset_ext ?_ ?_) | (with_reducible refine Ext.trans ?_ (by assumption)) | omega | (simp; done) | (simp; omega) | (refine Ext.size ?_) | (refine Nat.le_succ_of_le (Ext.size ?_))))
        refine app_L (m := g.size + 1) rfl (get_pushed (by simp)) (hll0.ext E0) (by omega) E0 (by omega) fun v1 h1 o1 m1 f1 => ?_
        have E1 := m1.ext_from E0 (fun b hb e => by omega)
        have b7 := (m1.block g.size (by simp; omega) (by omega)).trans ((get_push (by simp)).trans (get_pushed rfl))
        refine ⟨by simp (disch := omega) [cg _ E1], ?_⟩
        refine app_77 (hb := g) o1 b7 (by omega) E1 f1 fun b c h2 o2 e2 f2 => ?_
        refine ⟨by simp (disch := omega) [cg _ e2], ?_⟩
        have hc := (rws_own o2 hok (by omega)).2.1
        simp (disch := omega)
        exact fin b c h2 o2 e2 f2
    · obtain ⟨b, c, rfl, om, em, fm⟩ := hm
      obtain ⟨rm, hcm, c77⟩ := rws_own om hok (by omega)
      have am := a0.ext em
      have zm := em.size
      have hbm : b < g'.size := om.lt rfl
      have b1m := (em.block _ z0).trans b1
      have rlm := hll0.ext em
      have nb : ¬ foot q s b := fun hf => by have := hlt _ hf; omega
      refine Put_c am.st rm (by omega) (fun _ b' hb' => by cases hb'; exact nb) (fun h2 e2 hm => ?_) (fun h2 e2 hm hf => ?_) (fun s2 h2 hm u2 => ?_)
      · have c1 := (e2.block _ (get_some_lt b1m)).trans b1m
        simp (disch := omega) [cellOf (i := 2) c1 rfl]
        refine rPut_c (am.doc.ext e2) (rlm.ext e2) (by omega) (fun hne b' hb' => (hlv hne b' hb').2) (fun h3 e3 _ => ?_) (fun h3 e3 hm' => absurd hm' hm) (fun v3 h3 hm' => absurd hm' hm)
        have d1 := (e3.block _ (get_some_lt c1)).trans c1
        simp (disch := omega)
        refine num_c ?_
        simp (disch := omega) [cellOf (i := 2) d1 rfl]
        refine refSameR_c (rm.ext (e2.trans e3)) (rlm.ext (e2.trans e3)) ?_
        have c7 := hcell_ext (e2.trans e3) c77
        simp (disch := omega) [cellOf (i := 2) d1 rfl, elt_mk, c7]
        exact H s v L _ ((Bo.refl a).ext ((e0.trans em).trans (e2.trans e3)))
      · have c1 := (e2.block _ (get_some_lt b1m)).trans b1m
        simp (disch := omega) [cellOf (i := 2) c1 rfl]
        refine rPut_c (am.doc.ext e2) (rlm.ext e2) (by omega) (fun hne b' hb' => (hlv hne b' hb').2) (fun h3 e3 hm' => absurd hm hm') (fun h3 e3 _ _ => ?_) (fun v3 h3 _ u3 => absurd u3.st.len (by omega))
        have d1 := (e3.block _ (get_some_lt c1)).trans c1
        simp (disch := omega)
        refine num_c ?_
        simp (disch := omega) [cellOf (i := 2) d1 rfl]
        refine refSameR_c (rm.ext (e2.trans e3)) (rlm.ext (e2.trans e3)) ?_
        have c7 := hcell_ext (e2.trans e3) c77
        simp (disch := omega) [cellOf (i := 2) d1 rfl, elt_mk, c7]
        exact H s v L _ ((Bo.refl a).ext ((e0.trans em).trans (e2.trans e3)))
      · have c1 := (u2.mod.block _ (get_some_lt b1m) nf1).trans b1m
        have rl2 : Rws h2 (.slice oa t.l.length oc) t.l := by
          by_cases hne : t.l = []
          · rw [hne] at rlm ⊢; exact rlm.zero
          · exact rlm.mod u2.mod (fun b' hb' => (hlv hne b' hb').1)
        simp (disch := omega) [cellOf (i := 2) c1 rfl]
        refine rPut_c (am.doc1 u2) rl2 (by omega) (fun hne b' hb' => (hlv hne b' hb').2) (fun h3 e3 hm' => absurd hm hm') (fun h3 e3 _ hf => absurd u2.st.len (by omega)) (fun v3 h3 _ u3 => ?_)
        have hz := u2.mod.size
        have d1 := (u3.mod.block _ (get_some_lt c1) (by omega)).trans c1
        have bw := BUpd.of am u2 u3
        have nm : ∀ b' , blkV (.slice (some ⟨b, 0, none⟩) (t.l.length + 1) c) = some b' → ¬ (foot q s b' ∨ b' = p) := fun b' hb' hf => by
          cases hb'
          rcases hf with hf | hf
          · exact nb hf
          · have hf' : b = p := hf
            omega
        have om3 := om.mod bw.mod nm
        obtain ⟨rm3, -, c7⟩ := rws_own om3 hok (by omega)
        have rl3 : Rws h3 (.slice oa t.l.length oc) t.l := by
          by_cases hne : t.l = []
          · rw [hne] at rl2 ⊢; exact rl2.zero
          · exact rl2.mod u3.mod (fun b' hb' => (hlv hne b' hb').2)
        simp (disch := omega)
        refine num_c ?_
        simp (disch := omega) [cellOf (i := 2) d1 rfl]
        refine refSameR_c rm3 rl3 ?_
        simp (disch := omega) [cellOf (i := 2) d1 rfl, elt_mk, c7]
        exact H s2 v3 _ _ ((bw.from em).from e0)
  · rw [decide_eq_false k012]
    simp (disch := omega)
    refine JoinN_in1 (fun v g' => v = .bool (decide (t.kind = 3 ∨ t.kind = 4)) ∧ g' = g) (fun kk hkk => ?_) (fun vb g' hv => ?_)
    · by_cases k3 : t.kind = 3
      · simp (disch := omega) [k3]
        exact hkk _ _ ⟨by simp [k3], rfl⟩
      · by_cases k4 : t.kind = 4
        · simp (disch := omega) [k4]
          exact hkk _ _ ⟨by simp [k4], rfl⟩
        · simp (disch := omega) [k3, k4]
          exact hkk _ _ ⟨by simp [k3, k4], rfl⟩
    obtain ⟨rfl, rfl⟩ := hv
    by_cases k34 : t.kind = 3 ∨ t.kind = 4
    · rw [decide_eq_true k34]
      simp (disch := omega) [cellOf (i := 3) b1 rfl, cellOf (i := 4) b1 rfl]
      have nf1 : ¬ foot q s h.size := fun hf => by have := hlt _ hf; omega
      rw [show (.agg #[.int .i64 t.x.1, .int .i64 t.x.2] : Value) = rwA t.x from rfl]
      refine Cut_c (x := t.x) a0.st ht.x (fun h2 e2 hm => ?_) (fun h2 e2 hm hf => ?_) (fun s2 h2 hm u2 => ?_)
      · have c1 := (e2.block _ z0).trans b1
        simp (disch := omega) [cellOf (i := 3) c1 rfl, cellOf (i := 4) c1 rfl]
        rw [show (.agg #[.int .i64 t.x.1, .int .i64 t.x.2] : Value) = rwA t.x from rfl]
        refine rCut_c (x := t.x) (a0.doc.ext e2) ht.x (fun h3 e3 _ => ?_) (fun h3 e3 hm' => absurd hm' hm) (fun v3 h3 hm' => absurd hm' hm)
        simp (disch := omega)
        refine num_c ?_
        simp (disch := omega)
        exact H s v L _ ((Bo.refl a).ext ((e0.trans e2).trans e3))
      · have c1 := (e2.block _ z0).trans b1
        simp (disch := omega) [cellOf (i := 3) c1 rfl, cellOf (i := 4) c1 rfl]
        rw [show (.agg #[.int .i64 t.x.1, .int .i64 t.x.2] : Value) = rwA t.x from rfl]
        refine rCut_c (x := t.x) (a0.doc.ext e2) ht.x (fun h3 e3 hm' => absurd hm hm') (fun h3 e3 _ _ => ?_) (fun v3 h3 _ u3 => absurd u3.st.len (by omega))
        simp (disch := omega)
        refine num_c ?_
        simp (disch := omega)
        exact H s v L _ ((Bo.refl a).ext ((e0.trans e2).trans e3))
      · have c1 := (u2.mod.block _ z0 nf1).trans b1
        simp (disch := omega) [cellOf (i := 3) c1 rfl, cellOf (i := 4) c1 rfl]
        rw [show (.agg #[.int .i64 t.x.1, .int .i64 t.x.2] : Value) = rwA t.x from rfl]
        refine rCut_c (x := t.x) (a0.doc1 u2) ht.x (fun h3 e3 hm' => absurd hm hm') (fun h3 e3 _ hf => ?_) (fun v3 h3 _ u3 => ?_)
        · exact absurd u2.st.len (by omega)
        · simp (disch := omega)
          refine num_c ?_
          simp (disch := omega)
          exact H s2 v3 _ _ ((BUpd.of a0 u2 u3).from e0)
    · rw [decide_eq_false k34]
      by_cases k5 : t.kind = 5
      · simp (disch := omega) [k5, cellOf (i := 5) b1 rfl]
        have nf1 : ¬ foot q s h.size := fun hf => by have := hlt _ hf; omega
        refine Next_c a0.st ht.n (fun h2 e2 hm => ?_) (fun s2 h2 hm hL u2 => ?_) (fun x L0 s2 h2 hm hL u2 => ?_)
        · have c1 := (e2.block _ z0).trans b1
          have z2 := e2.size
          have hn1 : ¬ (h2.size = h.size) := by omega
          have hn2 : ¬ (h.size = h2.size) := by omega
          unfold rwA
          simp (disch := omega) [cellOf (i := 5) c1 rfl, hn1, hn2]
          refine (⟨_, rfl⟩ : ∃ f, f = hset (hset (Array.push h2 (.cells #[.int .i64 0, .int .i64 0] runT)) ⟨h2.size, 0, none⟩ (.int .i64 0)) ⟨h2.size, 1, none⟩ (.int .i64 0)).elim fun g2 eg2 => ?_
          have Eg2 : Ext h2 g2 := by rw [eg2]; exact (by repeat' (first | (with_reducible exact Ext.refl _) | (with_reducible assumption) | (with_reducible refine push_ext ?_) | (with_reducible refine hset_ext ?_ ?_) | (with_reducible refine Ext.trans ?_ (by assumption)) | omega | (simp; done) | (simp; omega) | (refine Ext.size ?_) | (refine Nat.le_succ_of_le (Ext.size ?_))))
          have Bg2 : g2[h2.size]? = some (.cells #[.int .i64 0, .int .i64 0] runT) := by
            rw [eg2]
            refine (obj_set (obj_set (get_pushed rfl))).trans ?_
            simp
          rw [show hset (hset (Array.push h2 (.cells #[.int .i64 0, .int .i64 0] 24)) ⟨h2.size, 0, none⟩ (.int .i64 0)) ⟨h2.size, 1, none⟩ (.int .i64 0) = g2 from eg2.symm]
          clear eg2
          refine rNext_c (a0.doc.ext (e2.trans Eg2)) ht.n (fun h3 e3 _ => ?_) (fun h3 e3 h9 => by omega) (fun x' L1 v3 h3 h9 => by omega)
          have B2 := (e3.block _ (get_some_lt Bg2)).trans Bg2
          have z3 := get_some_lt B2
          have hn3 : ¬ (h3.size = h2.size) := by omega
          have hn4 : ¬ (h2.size = h3.size) := by omega
          unfold rwA
          simp (disch := omega) [cellOf (i := 0) B2 rfl, cellOf (i := 1) B2 rfl, hn3, hn4]
          refine num_c ?_
          simp (disch := omega)
          exact H s v L _ (((Bo.refl a).ext ((e0.trans e2).trans (Eg2.trans e3))).ext (by repeat' (first | (with_reducible exact Ext.refl _) | (with_reducible assumption) | (with_reducible refine push_ext ?_) | (with_reducible refine hset_ext ?_ ?_) | (with_reducible refine Ext.trans ?_ (by assumption)) | omega | (simp; done) | (simp; omega) | (refine Ext.size ?_) | (refine Nat.le_succ_of_le (Ext.size ?_)))))
        · have c1 := (u2.mod.block _ z0 nf1).trans b1
          have z2 := u2.mod.size
          have hn1 : ¬ (h2.size = h.size) := by omega
          have hn2 : ¬ (h.size = h2.size) := by omega
          have doc := a0.doc1 u2
          unfold rwA
          simp (disch := omega) [cellOf (i := 5) c1 rfl, hn1, hn2]
          refine (⟨_, rfl⟩ : ∃ f, f = hset (hset (Array.push h2 (.cells #[.int .i64 0, .int .i64 0] runT)) ⟨h2.size, 0, none⟩ (.int .i64 0)) ⟨h2.size, 1, none⟩ (.int .i64 0)).elim fun g2 eg2 => ?_
          have Eg2 : Ext h2 g2 := by rw [eg2]; exact (by repeat' (first | (with_reducible exact Ext.refl _) | (with_reducible assumption) | (with_reducible refine push_ext ?_) | (with_reducible refine hset_ext ?_ ?_) | (with_reducible refine Ext.trans ?_ (by assumption)) | omega | (simp; done) | (simp; omega) | (refine Ext.size ?_) | (refine Nat.le_succ_of_le (Ext.size ?_))))
          have Bg2 : g2[h2.size]? = some (.cells #[.int .i64 0, .int .i64 0] runT) := by
            rw [eg2]
            refine (obj_set (obj_set (get_pushed rfl))).trans ?_
            simp
          rw [show hset (hset (Array.push h2 (.cells #[.int .i64 0, .int .i64 0] 24)) ⟨h2.size, 0, none⟩ (.int .i64 0)) ⟨h2.size, 1, none⟩ (.int .i64 0) = g2 from eg2.symm]
          clear eg2
          refine rNext_c (doc.ext Eg2) ht.n (fun h3 e3 h9 => by omega) (fun h3 e3 _ _ => ?_) (fun x' L1 v3 h3 h9 h8 => by rw [hL] at h8; cases h8)
          have B2 := (e3.block _ (get_some_lt Bg2)).trans Bg2
          have z3 := get_some_lt B2
          have hn3 : ¬ (h3.size = h2.size) := by omega
          have hn4 : ¬ (h2.size = h3.size) := by omega
          unfold rwA
          simp (disch := omega) [cellOf (i := 0) B2 rfl, cellOf (i := 1) B2 rfl, hn3, hn4]
          refine num_c ?_
          simp (disch := omega)
          subst hL
          exact H s2 v [] _ ((((BUpd.of a0 u2 ⟨doc, .of_ext (.refl _), fun b => .inl⟩).ext (Eg2.trans e3)).from e0).ext (by repeat' (first | (with_reducible exact Ext.refl _) | (with_reducible assumption) | (with_reducible refine push_ext ?_) | (with_reducible refine hset_ext ?_ ?_) | (with_reducible refine Ext.trans ?_ (by assumption)) | omega | (simp; done) | (simp; omega) | (refine Ext.size ?_) | (refine Nat.le_succ_of_le (Ext.size ?_)))))
        · have c1 := (u2.mod.block _ z0 nf1).trans b1
          have z2 := u2.mod.size
          have hn1 : ¬ (h2.size = h.size) := by omega
          have hn2 : ¬ (h.size = h2.size) := by omega
          have doc := a0.doc1 u2
          unfold rwA rnP
          obtain ⟨n', hn'⟩ : ∃ n', n' = min x.len t.n.toNat := ⟨_, rfl⟩
          rw [← hn'] at u2 ⊢
          simp (disch := omega) [cellOf (i := 5) c1 rfl, hn1, hn2]
          refine (⟨_, rfl⟩ : ∃ f, f = hset (hset (Array.push h2 (.cells #[.int .i64 0, .int .i64 0] runT)) ⟨h2.size, 0, none⟩ (.int .i64 (x.at_ : Nat))) ⟨h2.size, 1, none⟩ (.int .i64 (n' : Nat))).elim fun g2 eg2 => ?_
          have Eg2 : Ext h2 g2 := by rw [eg2]; exact (by repeat' (first | (with_reducible exact Ext.refl _) | (with_reducible assumption) | (with_reducible refine push_ext ?_) | (with_reducible refine hset_ext ?_ ?_) | (with_reducible refine Ext.trans ?_ (by assumption)) | omega | (simp; done) | (simp; omega) | (refine Ext.size ?_) | (refine Nat.le_succ_of_le (Ext.size ?_))))
          have Bg2 : g2[h2.size]? = some (.cells #[.int .i64 (x.at_ : Nat), .int .i64 (n' : Nat)] runT) := by
            rw [eg2]
            refine (obj_set (obj_set (get_pushed rfl))).trans ?_
            simp
          rw [show hset (hset (Array.push h2 (.cells #[.int .i64 0, .int .i64 0] 24)) ⟨h2.size, 0, none⟩ (.int .i64 (x.at_ : Nat))) ⟨h2.size, 1, none⟩ (.int .i64 (n' : Nat)) = g2 from eg2.symm]
          clear eg2
          refine rNext_c (doc.ext Eg2) ht.n (fun h3 e3 h9 => by omega) (fun h3 e3 _ h8 => by rw [hL] at h8; cases h8) (fun x' L1 v3 h3 h9 h8 u3 => ?_)
          rw [hL] at h8
          cases h8
          rw [← hn'] at u3 ⊢
          have u3' := RUpd.from Eg2 u3
          have hp2 : p < h2.size := get_some_lt doc.cells
          have B2 := (u3.mod.block _ (get_some_lt Bg2) (by omega)).trans Bg2
          have z3 := get_some_lt B2
          have hn3 : ¬ (h3.size = h2.size) := by omega
          have hn4 : ¬ (h2.size = h3.size) := by omega
          unfold rwA rnP
          simp (disch := omega) [cellOf (i := 0) B2 rfl, cellOf (i := 1) B2 rfl, hn3, hn4]
          refine num_c ?_
          simp (disch := omega)
          exact H s2 v3 _ _ (((BUpd.of a0 u2 u3').from e0).ext (by repeat' (first | (with_reducible exact Ext.refl _) | (with_reducible assumption) | (with_reducible refine push_ext ?_) | (with_reducible refine hset_ext ?_ ?_) | (with_reducible refine Ext.trans ?_ (by assumption)) | omega | (simp; done) | (simp; omega) | (refine Ext.size ?_) | (refine Nat.le_succ_of_le (Ext.size ?_)))))
      · by_cases k6 : t.kind = 6
        · simp (disch := omega) [k6]
          refine Greatest_c a0.st (fun h2 e2 hL => ?_) (fun x s2 h2 hb u2 => ?_)
          · have z2 := e2.size
            unfold rwA
            simp (disch := omega)
            refine (⟨_, rfl⟩ : ∃ f, f = hset (hset (Array.push h2 (.cells #[.int .i64 0, .int .i64 0] runT)) ⟨h2.size, 0, none⟩ (.int .i64 0)) ⟨h2.size, 1, none⟩ (.int .i64 0)).elim fun g2 eg2 => ?_
            have Eg2 : Ext h2 g2 := by rw [eg2]; exact (by repeat' (first | (with_reducible exact Ext.refl _) | (with_reducible assumption) | (with_reducible refine push_ext ?_) | (with_reducible refine hset_ext ?_ ?_) | (with_reducible refine Ext.trans ?_ (by assumption)) | omega | (simp; done) | (simp; omega) | (refine Ext.size ?_) | (refine Nat.le_succ_of_le (Ext.size ?_))))
            have Bg2 : g2[h2.size]? = some (.cells #[.int .i64 0, .int .i64 0] runT) := by
              rw [eg2]
              refine (obj_set (obj_set (get_pushed rfl))).trans ?_
              simp
            rw [show hset (hset (Array.push h2 (.cells #[.int .i64 0, .int .i64 0] 24)) ⟨h2.size, 0, none⟩ (.int .i64 0)) ⟨h2.size, 1, none⟩ (.int .i64 0) = g2 from eg2.symm]
            clear eg2
            refine rGreatest_c (a0.doc.ext (e2.trans Eg2)) (fun h3 e3 _ => ?_) (fun x v3 h3 hb' u3 => ?_)
            · have B2 := (e3.block _ (get_some_lt Bg2)).trans Bg2
              have z3 := get_some_lt B2
              have hn3 : ¬ (h3.size = h2.size) := by omega
              have hn4 : ¬ (h2.size = h3.size) := by omega
              unfold rwA
              simp (disch := omega) [cellOf (i := 0) B2 rfl, cellOf (i := 1) B2 rfl, hn3, hn4]
              refine num_c ?_
              simp (disch := omega)
              exact H s v L _ (((Bo.refl a).ext ((e0.trans e2).trans (Eg2.trans e3))).ext (by repeat' (first | (with_reducible exact Ext.refl _) | (with_reducible assumption) | (with_reducible refine push_ext ?_) | (with_reducible refine hset_ext ?_ ?_) | (with_reducible refine Ext.trans ?_ (by assumption)) | omega | (simp; done) | (simp; omega) | (refine Ext.size ?_) | (refine Nat.le_succ_of_le (Ext.size ?_)))))
            · rw [hL] at hb'
              exact absurd hb'.1 (by simp)
          · have z2 := u2.mod.size
            have doc := a0.doc1 u2
            have hne : L ≠ [] := fun e => by rw [e] at hb; exact absurd hb.1 (by simp)
            unfold rwA rnP
            simp (disch := omega)
            refine (⟨_, rfl⟩ : ∃ f, f = hset (hset (Array.push h2 (.cells #[.int .i64 0, .int .i64 0] runT)) ⟨h2.size, 0, none⟩ (.int .i64 (x.at_ : Nat))) ⟨h2.size, 1, none⟩ (.int .i64 (x.len : Nat))).elim fun g2 eg2 => ?_
            have Eg2 : Ext h2 g2 := by rw [eg2]; exact (by repeat' (first | (with_reducible exact Ext.refl _) | (with_reducible assumption) | (with_reducible refine push_ext ?_) | (with_reducible refine hset_ext ?_ ?_) | (with_reducible refine Ext.trans ?_ (by assumption)) | omega | (simp; done) | (simp; omega) | (refine Ext.size ?_) | (refine Nat.le_succ_of_le (Ext.size ?_))))
            have Bg2 : g2[h2.size]? = some (.cells #[.int .i64 (x.at_ : Nat), .int .i64 (x.len : Nat)] runT) := by
              rw [eg2]
              refine (obj_set (obj_set (get_pushed rfl))).trans ?_
              simp
            rw [show hset (hset (Array.push h2 (.cells #[.int .i64 0, .int .i64 0] 24)) ⟨h2.size, 0, none⟩ (.int .i64 (x.at_ : Nat))) ⟨h2.size, 1, none⟩ (.int .i64 (x.len : Nat)) = g2 from eg2.symm]
            clear eg2
            refine rGreatest_c (doc.ext Eg2) (fun h3 e3 h9 => absurd h9 hne) (fun x' v3 h3 hb' u3 => ?_)
            obtain rfl := best_one a.st.can hb hb'
            have u3' := RUpd.from Eg2 u3
            have hp2 : p < h2.size := get_some_lt doc.cells
            have B2 := (u3.mod.block _ (get_some_lt Bg2) (by omega)).trans Bg2
            have z3 := get_some_lt B2
            have hn3 : ¬ (h3.size = h2.size) := by omega
            have hn4 : ¬ (h2.size = h3.size) := by omega
            unfold rwA rnP
            simp (disch := omega) [cellOf (i := 0) B2 rfl, cellOf (i := 1) B2 rfl, hn3, hn4]
            refine num_c ?_
            simp (disch := omega)
            exact H s2 v3 _ _ (((BUpd.of a0 u2 u3').from e0).ext (by repeat' (first | (with_reducible exact Ext.refl _) | (with_reducible assumption) | (with_reducible refine push_ext ?_) | (with_reducible refine hset_ext ?_ ?_) | (with_reducible refine Ext.trans ?_ (by assumption)) | omega | (simp; done) | (simp; omega) | (refine Ext.size ?_) | (refine Nat.le_succ_of_le (Ext.size ?_)))))
        · by_cases k7 : t.kind = 7
          · simp (disch := omega) [k7, cellOf (i := 0) b1 rfl, cellOf (i := 1) b1 rfl, cellOf (i := 2) b1 rfl, cellOf (i := 3) b1 rfl, cellOf (i := 4) b1 rfl, cellOf (i := 5) b1 rfl]
            have hsv : stpV t = .agg #[.int .i64 7, .int .i64 t.leave, .slice oa t.l.length oc, .int .i64 t.x.1, .int .i64 t.x.2, .int .i64 t.n] := by unfold stpV stpC; rw [ov, k7]
            rw [← hsv]
            refine drain_c a0 (ht.ext e0) fun s' v' L' h' u => H _ _ _ _ (u.from e0)
          · by_cases k8 : t.kind = 8
            · simp (disch := omega) [k8, cellOf (i := 3) b1 rfl, cellOf (i := 4) b1 rfl]
              rw [show (.agg #[.int .i64 t.x.1, .int .i64 t.x.2] : Value) = rwA t.x from rfl]
              refine Over_c (x := t.x) a0.st ht.x (fun h2 e2 hm => ?_) (fun h2 e2 hm => ?_)
              · have c1 := (e2.block _ z0).trans b1
                simp (disch := omega) [cellOf (i := 3) c1 rfl, cellOf (i := 4) c1 rfl]
                rw [show (.agg #[.int .i64 t.x.1, .int .i64 t.x.2] : Value) = rwA t.x from rfl]
                refine refMay_c (x := t.x) ht.x fun h3 e3 => ?_
                rw [decide_eq_false hm]
                simp (disch := omega)
                refine num_c ?_
                simp (disch := omega)
                exact H s v L _ ((Bo.refl a).ext ((e0.trans e2).trans e3))
              · have c1 := (e2.block _ z0).trans b1
                simp (disch := omega) [cellOf (i := 3) c1 rfl, cellOf (i := 4) c1 rfl]
                rw [show (.agg #[.int .i64 t.x.1, .int .i64 t.x.2] : Value) = rwA t.x from rfl]
                refine refMay_c (x := t.x) ht.x fun h3 e3 => ?_
                rw [decide_eq_true hm]
                have c2 := (e3.block _ (get_some_lt c1)).trans c1
                obtain ⟨n1, n2, n3, n4⟩ := rn_of hm
                simp (disch := omega) [cellOf (i := 3) c2 rfl, cellOf (i := 4) c2 rfl]
                rw [show (.agg #[.int .i64 t.x.1, .int .i64 t.x.2] : Value) = rwA (rnP (rnOf t.x)) by rw [n1]; rfl]
                refine rOver_c (a0.doc.ext (e2.trans e3)) n4 fun h4 e4 => ?_
                simp (disch := omega)
                refine num_c ?_
                simp (disch := omega)
                exact H s v L _ ((Bo.refl a).ext ((e0.trans e2).trans (e3.trans e4)))
            · simp (disch := omega) [k5, k6, k7, k8]
              exact H s v L _ ((Bo.refl a0).from e0)
end Go.Proofs.Ytgcllbelgakjgaa
set_option linter.unusedSimpArgs false
set_option linter.unusedVariables false
namespace Go.Proofs.Ytgcllbelgakjgaa
open Go.Vc
variable {K : Value → Heap → Prop} {h : Heap}

structure Sps (h : Heap) (v : Value) (xs : List Stp) : Prop where
  slc : Slc 6 h v (fun us x => us = (stpC x).toList) xs
  ok : ∀ x ∈ xs, Stp.ok h x
  len : xs.length < 9223372036854775808
theorem slc_ext {α : Type} {s : Nat} {h' : Heap} {v : Value} {R : List Value → α → Prop} {xs : List α} (a : Slc s h v R xs) (e : Ext h h') : Slc s h' v R xs := by
  rcases a with a | ⟨a, c, h1, h2, h3⟩
  · exact .inl a
  · refine .inr ⟨a, c, h1, h2, fun i hi => ?_⟩
    obtain ⟨us, h4, h5, h6⟩ := h3 i hi
    exact ⟨us, h4, h5.ext e, h6⟩
theorem Sps.ext {h' : Heap} {v : Value} {xs : List Stp} (a : Sps h v xs) (e : Ext h h') : Sps h' v xs := ⟨slc_ext a.slc e, fun x hx => (a.ok x hx).ext e, a.len⟩
theorem Sps.form {v : Value} {xs : List Stp} (a : Sps h v xs) : ∃ o c, v = .slice o xs.length c := Slc.form a.slc
theorem Sps.cell {v : Value} {xs : List Stp} (s : Sps h v xs) {i : Nat} (hi : i < xs.length) : ∃ a c, v = .slice (some a) xs.length c ∧ hcell h (elt a (i * 6)) = some (.int .i64 xs[i].kind) ∧ hcell h (elt a (i * 6 + 1)) = some (.int .i64 xs[i].leave) ∧
    hcell h (elt a (i * 6 + 2)) = some xs[i].lv ∧ hcell h (elt a (i * 6 + 3)) = some (.int .i64 xs[i].x.1) ∧ hcell h (elt a (i * 6 + 4)) = some (.int .i64 xs[i].x.2) ∧ hcell h (elt a (i * 6 + 5)) = some (.int .i64 xs[i].n) := by
  rcases s.slc with ⟨h1, rfl⟩ | ⟨a, c, h1, h2, h3⟩
  · cases hi
  · obtain ⟨us, -, h5, rfl⟩ := h3 i hi
    have := fun j hj => h5 j hj
    unfold stpC at this
    have e0 := this 0 (by simp)
    have e1 := this 1 (by simp)
    have e2 := this 2 (by simp)
    have e3 := this 3 (by simp)
    have e4 := this 4 (by simp)
    have e5 := this 5 (by simp)
    rw [elt_elt] at e0 e1 e2 e3 e4 e5
    exact ⟨a, c, h1, e0, e1, e2, e3, e4, e5⟩
section
open Go Go.ChangeShapes Go.WideShapes Go.ChangeAt Go.RowKit Go.Deep
variable {H : Type} {enc : TypeId × Value → H} {w : World} {base : Nat} {sp : Nat → Bool} {held : Bool}
set_option maxRecDepth 100000 in
theorem laid_step {cs : List Value} (h : Laid enc Try.prog w base sp held 59 cs) : ∃ x : Stp, cs = (stpC x).toList ∧ Stp.ok w.heap x := by
  obtain ⟨hl, hL⟩ := h.flds (L := [(3, 0, 1), (3, 1, 1), (22, 2, 1), (24, 3, 2), (2, 5, 1)]) (n := 6) (by kernel_rfl) (by kernel_rfl)
  obtain ⟨c0, c1, c2, c3, c4, c5, rfl⟩ := len6 hl
  obtain ⟨n0, hn0, r0⟩ := (hL 0 _ _ _ rfl).int (k := .i64) (by kernel_rfl)
  obtain rfl : c0 = .int .i64 n0 := by simpa using hn0
  obtain ⟨n1, hn1, r1⟩ := (hL 1 _ _ _ rfl).int (k := .i64) (by kernel_rfl)
  obtain rfl : c1 = .int .i64 n1 := by simpa using hn1
  obtain ⟨v2, l, hn2, r2⟩ := laid_runs (hL 2 _ _ _ rfl)
  obtain rfl : c2 = v2 := by simpa using hn2
  obtain ⟨x, hn3, r3⟩ := laid_run (hL 3 _ _ _ rfl)
  obtain ⟨n5, hn5, r5⟩ := (hL 4 _ _ _ rfl).int (k := .i64) (by kernel_rfl)
  obtain rfl : c5 = .int .i64 n5 := by simpa using hn5
  obtain ⟨x1, x2⟩ := x
  obtain ⟨rfl, rfl⟩ : c3 = .int .i64 x1 ∧ c4 = .int .i64 x2 := by simpa [rwV] using hn3
  exact ⟨⟨n0, n1, c2, l, (x1, x2), n5⟩, rfl, i64_of r0, i64_of r1, r2, r3, i64_of r5⟩
set_option maxRecDepth 100000 in
theorem open_steps {v : Value} {r : Reach} {b0 : Nat} {ps : List MemPlace} {d : DataW H} (hval : Value.okWide Try.prog w r b0 50 v) (hd : DataW.Trod enc Try.prog w base sp held 50 v d ps) : ∃ xs : List Stp, Sps w.heap v xs := by
  obtain ⟨v', xs, hv, hs, hlen⟩ := (Laid.top hval hd (by kernel_rfl)).slice (e := 59) (R := fun us (x : Stp) => us = (stpC x).toList ∧ Stp.ok w.heap x) (by kernel_rfl) (fun us hu => laid_step hu)
  obtain rfl : v = v' := by simpa using hv
  have hc : Program.cellsOf Try.prog 59 = 6 := by kernel_rfl
  rw [hc] at hs
  obtain ⟨s1, s2⟩ := slc_ok (f := fun x : Stp => (stpC x).toList) hs (fun us x hx => hx)
  exact ⟨xs, s1, s2, max63 hlen⟩
end
end Go.Proofs.Ytgcllbelgakjgaa
set_option linter.unusedSimpArgs false
set_option linter.unusedVariables false
namespace Go.Proofs.Ytgcllbelgakjgaa
open Go.Vc
variable {K : Value → Heap → Prop} {h : Heap}

def plT : Nat := 25
theorem LqAt.nf {q c T : Nat} {s : Lq} {L : List Rn} {arr : Array Value} (a : LqAt h q s L) (hc : h[c]? = some (.cells arr T)) (hT : T = plT ∨ T = rlT) : ¬ foot q s c := by
  have e1 : plT ≠ laT ∧ plT ≠ prT ∧ plT ≠ runT ∧ rlT ≠ laT ∧ rlT ≠ prT ∧ rlT ≠ runT := by unfold plT laT prT runT rlT; omega
  have mp : ∀ m es cl, h[m]? = some (.map es cl) → c ≠ m := fun m es cl hm e => by subst e; rw [hm] at hc; cases hc
  have cl : ∀ b arr2 T2, h[b]? = some (.cells arr2 T2) → T ≠ T2 → c ≠ b := fun b arr2 T2 hb hne e => by subst e; rw [hb] at hc; cases hc; exact hne rfl
  rintro (e | e | e | e | ⟨x, hx, e⟩)
  · exact cl _ _ _ a.hp.cells (by rcases hT with rfl | rfl; exact e1.1; exact e1.2.2.2.1) e
  · obtain ⟨F, ⟨es, cl, h1, _⟩, -⟩ := a.fm
    exact mp _ _ _ h1 e
  · obtain ⟨F, ⟨es, cl, h1, _⟩, -⟩ := a.tm
    exact mp _ _ _ h1 e
  · obtain ⟨arr2, h2⟩ := a.hp.row.tag e
    exact cl _ _ _ h2 (by rcases hT with rfl | rfl; exact e1.2.1; exact e1.2.2.2.2.1) rfl
  · exact cl _ _ _ (a.hp.rq x hx) (by rcases hT with rfl | rfl; exact e1.2.2.1; exact e1.2.2.2.2.2) e.symm
/-- One that was put aside. -/
structure Od where
  q : Nat
  s : Lq
  v : Value
  L : List Rn
instance : Inhabited Od := ⟨⟨0, ⟨.slice none 0 0, [], 0, 0⟩, .slice none 0 0, []⟩⟩
structure PI (h g : Heap) (q : Nat) (s : Lq) (p : Nat) (v : Value) (L : List Rn) (O : List Od) (ov wv : Value) : Prop where
  bo : Bo g q s p v L
  ext : Ext h g
  ft : ∀ b, foot q s b → h.size ≤ b
  pl : h.size ≤ p
  oo : OwnT plT 1 g ov (O.map fun o => ptrV o.q)
  ow : OwnT rlT 1 g wv (O.map (·.v))
  wp : ∀ b, blkV wv = some b → b ≠ p
  ol : ∀ b, blkV ov = some b → h.size ≤ b
  wl : ∀ b, blkV wv = some b → h.size ≤ b
  od : ∀ o ∈ O, LqAt g o.q o.s o.L
  odv : ∀ o ∈ O, OwnT runT 2 g o.v (o.L.flatMap (cell2 rnP))
  df : ∀ o ∈ O, ∀ b, foot o.q o.s b → ¬ foot q s b
  dv : ∀ o ∈ O, ∀ b, blkV o.v = some b → ¬ foot q s b
variable {g : Heap} {q p : Nat} {s : Lq} {v ov wv : Value} {L : List Rn} {O : List Od}
theorem PI.upd {g2 : Heap} {s' : Lq} {v' : Value} {L' : List Rn} (a : PI h g q s p v L O ov wv) (u : BUpd g g2 q s s' p v v' L') : PI h g2 q s' p v' L' O ov wv := by
  have zs := a.ext.size
  have hpt := a.bo.doc.cells
  have hne : plT ≠ rlT ∧ runT ≠ rlT := by unfold plT rlT runT; omega
  refine ⟨u.st, u.mod.ext_from a.ext (fun b hb e => ?_), fun b hb => (u.foot b hb).elim (a.ft b) (fun e => by omega), a.pl, a.oo.mod u.mod (fun b hb e => ?_), a.ow.mod u.mod (fun b hb e => ?_), a.wp, a.ol, a.wl, fun o ho => (a.od o ho).mod u.mod (fun b hb e => ?_), fun o ho => (a.odv o ho).mod u.mod (fun b hb e => ?_), fun o ho b hb hf => ?_, fun o ho b hb hf => ?_⟩
  · rcases e with e | e
    · have := a.ft b e; omega
    · have := a.pl; omega
  · rcases e with e | e
    · obtain ⟨arr, ha⟩ := a.oo.tag hb
      exact a.bo.st.nf ha (.inl rfl) e
    · exact a.oo.ne hb hpt hne.1 e
  · rcases e with e | e
    · obtain ⟨arr, ha⟩ := a.ow.tag hb
      exact a.bo.st.nf ha (.inr rfl) e
    · exact a.wp b hb e
  · rcases e with e | e
    · exact a.df o ho b hb e
    · exact (a.od o ho).nf hpt (.inr rfl) (e ▸ hb)
  · rcases e with e | e
    · exact a.dv o ho b hb e
    · exact (a.odv o ho).ne hb hpt hne.2 e
  · rcases u.foot b hf with e | e
    · exact a.df o ho b hb e
    · have := (a.od o ho).lt hb; omega
  · rcases u.foot b hf with e | e
    · exact a.dv o ho b hb e
    · have := (a.odv o ho).lt hb; omega
theorem PI.ext' {g2 : Heap} (a : PI h g q s p v L O ov wv) (e : Ext g g2) : PI h g2 q s p v L O ov wv := a.upd ((Bo.refl a.bo).ext e)
theorem PI.new {g2 : Heap} {q' : Nat} {s' : Lq} {ov' wv' : Value} (a : PI h g q s p v L O ov wv) (m : Mod (fun b => blkV ov = some b ∨ blkV wv = some b) g g2)
    (oo : OwnT plT 1 g2 ov' ((O ++ [(⟨q, s, v, L⟩ : Od)]).map fun o => ptrV o.q)) (ow : OwnT rlT 1 g2 wv' ((O ++ [(⟨q, s, v, L⟩ : Od)]).map (·.v)))
    (f1 : ∀ b, blkV ov' = some b → blkV ov = some b ∨ g.size ≤ b) (f2 : ∀ b, blkV wv' = some b → blkV wv = some b ∨ g.size ≤ b) (c : LqAt g2 q' s' L) (fc : ∀ b, foot q' s' b → g.size ≤ b) : PI h g2 q' s' p v L (O ++ [⟨q, s, v, L⟩]) ov' wv' := by
  have zs := a.ext.size
  have hpt := a.bo.doc.cells
  have hpl := a.bo.lt
  have hne : plT ≠ rlT ∧ runT ≠ rlT ∧ runT ≠ plT := by unfold plT rlT runT; omega
  have nq : ∀ {q0 : Nat} {s0 : Lq} {L0 : List Rn}, LqAt g q0 s0 L0 → ∀ b, foot q0 s0 b → ¬ (blkV ov = some b ∨ blkV wv = some b) := fun h0 b hb e => by
    rcases e with e | e
    · obtain ⟨arr, ha⟩ := a.oo.tag e
      exact h0.nf ha (.inl rfl) hb
    · obtain ⟨arr, ha⟩ := a.ow.tag e
      exact h0.nf ha (.inr rfl) hb
  have nv : ∀ {v0 : Value} {vs : List Value}, OwnT runT 2 g v0 vs → ∀ b, blkV v0 = some b → ¬ (blkV ov = some b ∨ blkV wv = some b) := fun h0 b hb e => by
    rcases e with e | e
    · obtain ⟨arr, ha⟩ := a.oo.tag e
      exact h0.ne hb ha hne.2.2 rfl
    · obtain ⟨arr, ha⟩ := a.ow.tag e
      exact h0.ne hb ha hne.2.1 rfl
  have hod : ∀ o ∈ O ++ [⟨q, s, v, L⟩], LqAt g o.q o.s o.L ∧ OwnT runT 2 g o.v (o.L.flatMap (cell2 rnP)) := fun o ho => by
    rcases List.mem_append.1 ho with ho | ho
    · exact ⟨a.od o ho, a.odv o ho⟩
    · simp at ho; subst ho; exact ⟨a.bo.st, a.bo.doc.own⟩
  refine ⟨⟨c, a.bo.doc.mod m (fun e => ?_) (nv a.bo.doc.own), fun hf => by have := fc p hf; omega, fun b hb hf => by have := fc b hf; have := a.bo.doc.own.lt hb; omega⟩, m.ext_from a.ext (fun b hb e => ?_), fun b hb => by have := fc b hb; omega, a.pl, oo, ow, fun b hb e => ?_, fun b hb => (f1 b hb).elim (a.ol b) (fun e => by omega), fun b hb => (f2 b hb).elim (a.wl b) (fun e => by omega), fun o ho => (hod o ho).1.mod m (nq (hod o ho).1), fun o ho => (hod o ho).2.mod m (nv (hod o ho).2), fun o ho b hb hf => ?_, fun o ho b hb hf => ?_⟩
  · rcases e with e | e
    · exact a.oo.ne e hpt hne.1 rfl
    · exact a.wp p e rfl
  · rcases e with e | e
    · have := a.ol b e; omega
    · have := a.wl b e; omega
  · rcases f2 b hb with h1 | h1
    · exact a.wp b h1 e
    · omega
  · have := (hod o ho).1.lt hb; have := fc b hf; omega
  · have := (hod o ho).2.lt hb; have := fc b hf; omega
end Go.Proofs.Ytgcllbelgakjgaa
