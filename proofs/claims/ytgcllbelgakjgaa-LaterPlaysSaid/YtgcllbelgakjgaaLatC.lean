/- Later: a run laid to one that ends where it begins. Later: runs put; a new queue. Later: cut; how much of a run waits; how many wait; another one; the same. -/
import Derived.Test.YtgcllbelgakjgaaLatB
set_option linter.unusedSimpArgs false
set_option linter.unusedVariables false
namespace Go.Proofs.Ytgcllbelgakjgaa
open Go.Vc Go.Sort
variable {K : Value → Heap → Prop} {h : Heap}

/-- What a lookup in a map of beginnings, or ends, tells. -/
theorem tabs_look {f : Rn → Nat} {E : List Ent} {F : List (Int × Value)} (t : Tabs f E F) (k : Int) : (look2 k F = none ∧ ∀ e ∈ E, 0 < e.r.len → (f e.r : Int) ≠ k) ∨ ∃ e ∈ E, 0 < e.r.len ∧ (f e.r : Int) = k ∧ look2 k F = some (ptrV e.b) := by
  cases hc : look2 k F with
  | none => exact .inl ⟨rfl, fun e he hl hk => by have := (t k (ptrV e.b)).2 ⟨e, he, hl, hk, rfl⟩; rw [hc] at this; cases this⟩
  | some v =>
    obtain ⟨e, he, hl, hk, rfl⟩ := (t k v).1 hc
    exact .inr ⟨e, he, hl, hk, rfl⟩
/-- One run has changed; the heap of runs stands as it stood. -/
theorem HpAt.change {h' : Heap} {q : Nat} {B C v : Value} {E1 E2 : List Ent} {e e' : Ent} (s : HpAt h q B C v (E1 ++ e :: E2)) (hn : ((E1 ++ e :: E2).map (·.b)).Nodup) (hb : e'.b = e.b) (m : Mod (· = e.b) h h') (he : EntAt h' e') : HpAt h' q B C v (E1 ++ e' :: E2) := by
  have hm : e ∈ E1 ++ e :: E2 := by simp
  have n1 := s.ne hm
  rw [List.map_append, List.map_cons, List.nodup_append, List.nodup_cons] at hn
  refine ⟨(m.block _ (get_some_lt s.cells) (Ne.symm n1.1)).trans s.cells, ?_, fun x hx => ?_, by have := s.few; simpa using this⟩
  · have := s.row.mod m (fun b hb2 e9 => n1.2 (by rw [hb2, e9]))
    have e9 : rowE (E1 ++ e' :: E2) = rowE (E1 ++ e :: E2) := by unfold rowE; simp [hb]
    rw [e9]; exact this
  · rcases List.mem_append.1 hx with hx | hx
    · exact (s.rq x (by simp [hx])).mod m (fun e9 => hn.2.2 _ (List.mem_map_of_mem hx) _ (by simp) e9)
    · rcases List.mem_cons.1 hx with rfl | hx
      · exact he
      · exact (s.rq x (by simp [hx])).mod m (fun e9 => hn.2.1.1 (by rw [← e9]; exact List.mem_map_of_mem hx))
theorem hok_change {E1 E2 : List Ent} {e e' : Ent} (ho : HOkE ltE (E1 ++ e :: E2) (E1 ++ e :: E2).length 0) (ha : e'.r.at_ = e.r.at_) : HOkE ltE (E1 ++ e' :: E2) (E1 ++ e' :: E2).length 0 := by
  have hl : (E1 ++ e' :: E2).length = (E1 ++ e :: E2).length := by simp
  have hat : ∀ k, (atE (E1 ++ e' :: E2) k).r.at_ = (atE (E1 ++ e :: E2) k).r.at_ := fun k => by
    unfold atE
    rw [List.getD_eq_getElem?_getD, List.getD_eq_getElem?_getD]
    by_cases h1 : k < E1.length
    · rw [List.getElem?_append_left h1, List.getElem?_append_left h1]
    · rw [List.getElem?_append_right (by omega), List.getElem?_append_right (by omega)]
      cases hk : k - E1.length with
      | zero => simpa using ha
      | succ n => simp
  intro k k0 hk klo
  have := ho k k0 (by omega) klo
  unfold okE ltE at *
  rw [hat, hat]
  exact this
set_option maxHeartbeats 4000000 in
theorem beside_c {q : Nat} {s : Lq} {L : List Rn} {x : Rn} (a : LqAt h q s L) (hx : 0 < x.len) (hf : x.en ≤ 72057594037927936)
    (H0 : ∀ h', Ext h h' → K (.bool false) h')
    (H1 : ∀ s' h', LUpd h h' q s s' (insR L x) → bytesR (insR L x) = bytesR L + x.len → K (.bool true) h') :
    CallsH Try.prog 34 #[ptrV q, rwA (rnP x)] h K ⟨⟩ := by
  refine n34_calls ?_
  unfold n34 rwA rnP ptrV
  have hxa : x.at_ ≤ 72057594037927936 := by unfold Rn.en at hf; omega
  have hxe : ((x.at_ : Int) + (x.len : Int)) = ((x.en : Nat) : Int) := by unfold Rn.en; omega
  have e0 : Ext h (h.push (.cells #[.int .i64 (x.at_ : Nat), .int .i64 (x.len : Nat)] 24)) := (by repeat' (first | (with_reducible exact Ext.refl _) | (with_reducible assumption) | (with_reducible refine push_ext ?_) | (with_reducible refine hset_ext ?_ ?_) | (with_reducible refine Ext.trans ?_ (by assumption)) | omega | (simp; done) | (simp; omega) | (refine Ext.size ?_) | (refine Nat.le_succ_of_le (Ext.size ?_))))
  have hqh : q ≠ h.size := by have := get_some_lt a.hp.cells; omega
  have aG := a.ext e0
  have c0 := cellOf (i := 0) a.hp.cells rfl
  have c2 := cellOf (i := 2) a.hp.cells rfl
  have c3 := cellOf (i := 3) a.hp.cells rfl
  obtain ⟨F, mF, tF⟩ := aG.fm
  obtain ⟨G, mG, tG⟩ := aG.tm
  have lk := fun (q : Bool) (g : Heap) (m : Nat) (l : List (Int × Value)) (k : Int) (ok : Bool) (K : Value → Heap → Prop) (hm : MapK (κ := Int) (.int .i64) g m l) => Hp_lookup (P := Try.prog) (q := q) (K := K) (k := k) (ok := ok) laKey (z := .pointer none) (by kernel_rfl) hm
  obtain ⟨ha, hcap, hv, hhc, -⟩ := a.hp.form
  rw [hv] at c0
  have hfew := a.few
  rcases tabs_look tG (x.at_ : Int) with ⟨n1, -⟩ | ⟨e, he, hel, hek, l1⟩
  · simp (disch := omega) [hqh, c0, c2, c3, lk _ _ _ _ _ _ _ mG, n1]
    exact H0 _ e0
  rcases tabs_look tF ((x.en : Nat) : Int) with ⟨n2, nn2⟩ | ⟨e2, he2, hel2, hek2, l2⟩
  · simp (disch := omega) [hqh, c0, c2, c3, lk _ _ _ _ _ _ _ mG, l1, hxe, lk _ _ _ _ _ _ _ mF, n2]
    refine (⟨_, rfl⟩ : ∃ f, f = h.push (.cells #[.int .i64 (x.at_ : Nat), .int .i64 (x.len : Nat)] 24)).elim fun g eg => ?_
    rw [← eg] at e0 aG mF mG ⊢
    have q0 : g[h.size]? = some (.cells #[.int .i64 (x.at_ : Nat), .int .i64 (x.len : Nat)] runT) := by rw [eg]; exact get_pushed rfl
    clear eg lk
    have x0 := cellOf (i := 0) q0 rfl
    have x1 := cellOf (i := 1) q0 rfl
    unfold Rn.en at hf
    refine loopX1 (fun i : Nat => .int .i64 i) (fun i g' => g' = g ∧ i ≤ s.E.length ∧ ∀ j (hj : j < s.E.length), j < i → 0 < s.E[j].r.len → ¬ (s.E[j].r.at_ < x.en ∧ x.at_ < s.E[j].r.en)) (fun i => s.E.length - i) 0 rfl ⟨rfl, by omega, fun j _ hj => by omega⟩ ?_
    rintro i g' ⟨rfl, hi, hno⟩ X hX
    by_cases hin : i < s.E.length
    · obtain ⟨b, c, hv', -, ci, -⟩ := aG.hp.cell hin
      have hab : ha = some ⟨b, 0, none⟩ := by rw [hv] at hv'; cases hv'; rfl
      subst hab
      have ei := aG.hp.rq _ (List.getElem_mem hin)
      have k0 := ei.c0
      have k1 := ei.c1
      have hfi := a.fit _ (List.getElem_mem hin)
      unfold Rn.en at hfi
      have next : ¬ (0 < s.E[i].r.len ∧ s.E[i].r.at_ < x.en ∧ x.at_ < s.E[i].r.en) → X (.int .i64 ((i : Int) + 1)) g' := fun hh => by
        refine hX (i + 1) _ _ (by simp) ⟨rfl, hin, fun j hj hji hl => ?_⟩ (by omega)
        by_cases e : j = i
        · subst e; exact fun h9 => hh ⟨hl, h9⟩
        · exact hno j hj (by omega) hl
      unfold Rn.en at next
      by_cases z1 : 0 < s.E[i].r.len
      · by_cases z2 : s.E[i].r.at_ < x.at_ + x.len
        · by_cases z3 : x.at_ < s.E[i].r.at_ + s.E[i].r.len
          · simp (disch := omega) [ci, k0, k1, x0, x1]
            exact H0 _ e0
          · simp (disch := omega) [ci, k0, k1, x0, x1]
            exact next (fun h9 => z3 h9.2.2)
        · simp (disch := omega) [ci, k0, k1, x0, x1]
          exact next (fun h9 => z2 h9.2.1)
      · simp (disch := omega) [ci, k0, k1, x0, x1]
        exact next (fun h9 => z1 h9.1)
    · have hno' : ∀ y ∈ s.E, 0 < y.r.len → ¬ (y.r.at_ < x.en ∧ x.at_ < y.r.en) := fun y hy hl => by
        obtain ⟨j, hj, rfl⟩ := List.getElem_of_mem hy
        exact hno j hj (by omega) hl
      clear hno hX
      have g3 := cellOf (i := 3) aG.hp.cells rfl
      simp (disch := omega) [g3, x0]
      refine Hp_delete laKey mG fun h2 G2 m2 => ?_
      have nF := aG.mapne (.inl rfl)
      have nG := aG.mapne (.inr rfl)
      have ee := aG.hp.rq e he
      have e2 : EntAt h2 e := ee.mod m2 (nG.2.2 e he)
      have xne : h.size ≠ s.mt := fun e9 => by
        obtain ⟨es, cl, h4, _⟩ := mG
        rw [← e9, q0] at h4; cases h4
      have q2 := (m2.block _ (get_some_lt q0) xne).trans q0
      have y1 := cellOf (i := 1) q2 rfl
      have w0 := e2.c0
      have w1 := e2.c1
      have w2 : hfrozen h2 ⟨e.b, 1, none⟩ = false := frzOf e2
      have hfe := a.fit e he
      unfold Rn.en at hfe hek
      unfold ptrV
      simp (disch := omega) [y1, w1, w2]
      refine (⟨_, rfl⟩ : ∃ f, f = hset h2 ⟨e.b, 1, none⟩ (.int .i64 ((e.r.len : Int) + (x.len : Int)))).elim fun h3 eh3 => ?_
      have m3 : Mod (· = e.b) h2 h3 := by rw [eh3]; exact Mod.set h2 ⟨e.b, 1, none⟩ _
      have b3 : EntAt h3 ⟨e.b, ⟨e.r.at_, e.r.len + x.len⟩⟩ := by
        rw [eh3]
        refine (obj_set e2).trans ?_
        simp
      rw [← eh3]
      clear eh3
      have H2 : HpAt h2 q (.map (some s.mf)) (.map (some s.mt)) s.hl s.E := aG.hp.mod m2 (Ne.symm nG.1) (fun b hb e9 => nG.2.1 (by rw [← e9]; exact hb)) nG.2.2
      obtain ⟨E1, E2, hE⟩ := List.append_of_mem he
      obtain ⟨A, B, hL⟩ := List.append_of_mem (a.live.mem_iff.1 (List.mem_map_of_mem (mem_lives.2 ⟨he, hel⟩)))
      have hn := a.blks
      rw [hE] at H2 hn
      have H3 : HpAt h3 q (.map (some s.mf)) (.map (some s.mt)) s.hl (E1 ++ ⟨e.b, ⟨e.r.at_, e.r.len + x.len⟩⟩ :: E2) := H2.change hn rfl m3 b3
      have k0 := b3.c0
      have k1 := b3.c1
      have g3 := cellOf (i := 3) H2.cells rfl
      dsimp only at k0 k1
      have hca : (((e.r.len + x.len : Nat)) : Int) = (e.r.len : Int) + (x.len : Int) := by omega
      rw [hca] at k1
      simp (disch := omega) [g3, k0, k1]
      have hmb : ∀ b, b = s.mf ∨ b = s.mt → b ≠ e.b := fun b hb e9 => by
        rcases hb with rfl | rfl
        · exact nF.2.2 e he e9.symm
        · exact nG.2.2 e he e9.symm
      have G3 := G2.mod m3 (hmb _ (.inr rfl))
      rw [show ((e.r.at_ : Int) + ((e.r.len : Int) + (x.len : Int))) = (((⟨e.r.at_, e.r.len + x.len⟩ : Rn).en : Nat) : Int) by unfold Rn.en; dsimp only; omega]
      refine Hp_mapUpdate laKey G3 fun h4 G4 m4 => ?_
      have hM1 : e ∈ s.E := he
      have hins := ins_beside (A := A) (B := B) (y := e.r) (x := x) (by rw [← hL]; exact a.can) hx (by unfold Rn.en; omega) (fun z hz => by
        have hzL : z ∈ L := by rw [hL]; simp [hz]
        obtain ⟨y, hy, rfl⟩ := List.mem_map.1 (a.live.mem_iff.2 hzL)
        rw [mem_lives] at hy
        have h1 := hno' y hy.1 hy.2
        have h2 := nn2 y hy.1 hy.2
        have h3 := (can_mid (by rw [← hL]; exact a.can : Vc.Can (A ++ e.r :: B))).2.2.2 y.r hz
        unfold Rn.en at *
        omega)
      rw [← hL] at hins
      have ha4 : HpAt h4 q (.map (some s.mf)) (.map (some s.mt)) s.hl (E1 ++ ⟨e.b, ⟨e.r.at_, e.r.len + x.len⟩⟩ :: E2) := H3.mod m4 (Ne.symm nG.1) (fun b hb e9 => nG.2.1 (by rw [← e9]; exact hb)) (fun y hy => by
        rcases List.mem_append.1 hy with hy | hy
        · exact nG.2.2 y (by rw [hE]; simp [hy])
        · rcases List.mem_cons.1 hy with rfl | hy
          · exact nG.2.2 e he
          · exact nG.2.2 y (by rw [hE]; simp [hy]))
      rw [hE] at tF tG
      have inA := a.injA
      have inE := a.injE
      have hlive := a.live
      have hord := a.ord
      rw [hE] at inA inE hlive hord
      rw [hL] at hlive
      have hmem : ∀ y ∈ E1 ++ E2, y ∈ E1 ++ e :: E2 := fun y hy => by
        rcases List.mem_append.1 hy with hy | hy <;> simp [hy]
      refine H1 ⟨s.hl, E1 ++ ⟨e.b, ⟨e.r.at_, e.r.len + x.len⟩⟩ :: E2, s.mf, s.mt⟩ h4 ⟨⟨ha4, ⟨F, ((mF.mod m2 a.mne).mod m3 (hmb _ (.inl rfl))).mod m4 a.mne, tabs_same tF hel (by dsimp only; omega) rfl rfl⟩, ⟨_, G4, ?_⟩, a.mne, ?_, hok_change hord rfl, ?_, ?_, ?_, ?_⟩, ?_, ?_⟩ ?_
      · have := tabs_set (e' := ⟨e.b, ⟨e.r.at_, e.r.len + x.len⟩⟩) tG mG.nodup hn hel (by dsimp only; omega) rfl (fun y hy hl he9 => inE y hy e (by simp) hl hel he9) (fun y hy hl he9 => ?_)
        · rw [show ((e.r.en : Nat) : Int) = (x.at_ : Int) by unfold Rn.en; omega] at this
          exact this
        · have hyE := hmem y hy
          have h1 := hno' y (by rw [hE]; exact hyE) hl
          have : y.r.en = x.en := by rw [he9]; unfold Rn.en; dsimp only; omega
          have h3 := inE y hyE e (by simp) hl hel
          have hyL : y.r ∈ L := by rw [hL]; exact hlive.mem_iff.1 (List.mem_map_of_mem (mem_lives.2 ⟨hyE, hl⟩))
          have h5 := a.can
          unfold Rn.en at *
          omega
      · simpa using hn
      · rw [hins]
        exact perm_set (e' := ⟨e.b, ⟨e.r.at_, e.r.len + x.len⟩⟩) (by dsimp only; omega) (perm_rest hel hlive)
      · exact insR_can a.can hx
      · intro y hy
        rcases List.mem_append.1 hy with hy | hy
        · exact a.fit y (by rw [hE]; simp [hy])
        · rcases List.mem_cons.1 hy with rfl | hy
          · unfold Rn.en; dsimp only; omega
          · exact a.fit y (by rw [hE]; simp [hy])
      · have := a.few; rw [hE] at this; simpa using this
      · refine (((Mod.of_ext e0).trans m2 fun b _ e9 => ?_).trans m3 fun b _ e9 => ?_).trans m4 fun b _ e9 => ?_
        · exact .inr (.inr (.inl e9))
        · exact .inr (.inr (.inr (.inr ⟨e, he, e9.symm⟩)))
        · exact .inr (.inr (.inl e9))
      · rintro b (rfl | rfl | rfl | e9 | ⟨y, hy, rfl⟩)
        · exact .inl (.inl rfl)
        · exact .inl (.inr (.inl rfl))
        · exact .inl (.inr (.inr (.inl rfl)))
        · exact .inl (.inr (.inr (.inr (.inl e9))))
        · refine .inl (.inr (.inr (.inr (.inr ?_))))
          rcases List.mem_append.1 hy with hy | hy
          · exact ⟨y, by rw [hE]; simp [hy], rfl⟩
          · rcases List.mem_cons.1 hy with rfl | hy
            · exact ⟨e, he, rfl⟩
            · exact ⟨y, by rw [hE]; simp [hy], rfl⟩
      · rw [hins, hL, bytesR_app, bytesR_app]
        simp only [bytesR, List.map_cons, List.sum_cons]
        omega
  · simp (disch := omega) [hqh, c0, c2, c3, lk _ _ _ _ _ _ _ mG, l1, hxe, lk _ _ _ _ _ _ _ mF, l2, ptrV]
    exact H0 _ e0
end Go.Proofs.Ytgcllbelgakjgaa
set_option linter.unusedSimpArgs false
set_option linter.unusedVariables false
namespace Go.Proofs.Ytgcllbelgakjgaa
open Go.Vc Go.Sort
variable {K : Value → Heap → Prop} {h : Heap}

def rnOf (x : Int × Int) : Rn := ⟨x.1.toNat, x.2.toNat⟩
theorem rn_of {x : Int × Int} (h : mayR x) : rnP (rnOf x) = x ∧ 0 < (rnOf x).len ∧ (rnOf x).at_ ≤ 72057594037927936 ∧ (rnOf x).en ≤ 72057594037927936 := by
  obtain ⟨h1, h2, h3, h4⟩ := h
  unfold rnP rnOf Rn.en
  refine ⟨?_, ?_, ?_, ?_⟩
  · ext <;> dsimp only <;> omega
  all_goals dsimp only; omega
theorem rns_of {l : List (Int × Int)} (h : ∀ x ∈ l, mayR x) : (l.map rnOf).map rnP = l ∧ Fit (l.map rnOf) ∧ ∀ x ∈ l.map rnOf, 0 < x.len := by
  refine ⟨?_, fun x hx => ?_, fun x hx => ?_⟩
  · rw [List.map_map]
    conv => rhs; rw [← List.map_id l]
    exact List.map_congr_left fun x hx => (rn_of (h x hx)).1
  · obtain ⟨y, hy, rfl⟩ := List.mem_map.1 hx
    exact (rn_of (h y hy)).2.2
  · obtain ⟨y, hy, rfl⟩ := List.mem_map.1 hx
    exact (rn_of (h y hy)).2.1
theorem insR_fit : ∀ {L : List Rn} {x : Rn}, Fit L → (x.at_ ≤ 72057594037927936 ∧ x.en ≤ 72057594037927936) → Fit (insR L x)
  | [], x, _, hx => fun y hy => by simp [insR] at hy; subst hy; exact hx
  | y :: L, x, hf, hx => by
    have h1 := hf y (by simp)
    have h2 : Fit L := fun z hz => hf z (List.mem_cons_of_mem _ hz)
    unfold insR
    split
    · intro z hz
      rcases List.mem_cons.1 hz with rfl | hz
      · exact h1
      · exact insR_fit h2 hx z hz
    · split
      · intro z hz
        rcases List.mem_cons.1 hz with rfl | hz
        · exact hx
        · exact hf z hz
      · refine insR_fit h2 ?_
        unfold mergeR Rn.en at *
        dsimp only; omega
/-- All of them put, one behind the other. -/
def putR (L M : List Rn) : List Rn := M.foldl insR L
theorem putR_spec : ∀ {M L : List Rn}, Vc.Can L → (∀ x ∈ M, 0 < x.len) → Fit L → Fit M → Vc.Can (putR L M) ∧ (∀ p, Cov (putR L M) p ↔ Cov L p ∨ Cov M p) ∧ Fit (putR L M)
  | [], L, h, _, hf, _ => ⟨h, fun p => by simp [putR, Cov.nil], hf⟩
  | x :: M, L, h, hp, hf, hm => by
    obtain ⟨h1, h2, h3⟩ := putR_spec (M := M) (L := insR L x) (insR_can h (hp x (by simp))) (fun y hy => hp y (List.mem_cons_of_mem _ hy)) (insR_fit hf (hm x (by simp))) (fun y hy => hm y (List.mem_cons_of_mem _ hy))
    refine ⟨h1, fun p => ?_, h3⟩
    have := h2 p
    unfold putR at *
    rw [List.foldl_cons, this, insR_cov, Cov.cons]
    constructor
    · rintro ((a | a) | a)
      · exact .inl a
      · exact .inr (.inl a)
      · exact .inr (.inr a)
    · rintro (a | a | a)
      · exact .inl (.inl a)
      · exact .inl (.inr a)
      · exact .inr a
theorem own_raw {v : Value} {l : List (Int × Int)} {M : List Rn} (o : OwnT runT 2 h v (l.flatMap rwV)) (hl : M.map rnP = l) : OwnT runT 2 h v (M.flatMap (cell2 rnP)) := by
  rw [rn_cells, hl]; exact o
theorem own_q {q b : Nat} {v w0 w1 w2 w3 : Value} {vs : List Value} (o : OwnT runT 2 h v vs) (hq : h[q]? = some (.cells #[w0, w1, w2, w3] laT)) (hb : blkV v = some b) : b < h.size ∧ b ≠ q := ⟨o.lt hb, o.ne hb hq (Ne.symm laT_ne)⟩
set_option maxHeartbeats 4000000 in
theorem Put_c {q : Nat} {s : Lq} {L : List Rn} {v : Value} {l : List (Int × Int)} (a : LqAt h q s L) (rv : Rws h v l) (hl : l.length < 90000) (hvF : l ≠ [] → ∀ b, blkV v = some b → ¬ foot q s b)
    (H0 : ∀ h', Ext h h' → ¬ (∀ x ∈ l, mayR x) → K (.tuple #[.int .i64 0, .int .i64 2]) h')
    (H1 : ∀ h', Ext h h' → (∀ x ∈ l, mayR x) → 4096 < (putR L (l.map rnOf)).length → K (.tuple #[.int .i64 0, .int .i64 6]) h')
    (H2 : ∀ s' h', (∀ x ∈ l, mayR x) → LUpd h h' q s s' (putR L (l.map rnOf)) → K (.tuple #[.int .i64 ((bytesR (putR L (l.map rnOf)) : Int) - (bytesR L : Int)), .int .i64 0]) h') :
    CallsH Try.prog 10 #[ptrV q, v] h K ⟨⟩ := by
  refine n10_calls ?_
  unfold n10
  refine noneN_c a.hp.cells ?_
  simp (disch := omega)
  refine badR_c rv fun h1 e1 => ?_
  by_cases hm : ∀ x ∈ l, mayR x
  case neg =>
    have : (l.any fun x => !decide (mayR x)) = true := by
      rw [List.any_eq_true]
      simp only [Classical.not_forall] at hm
      obtain ⟨x, hx, hn⟩ := hm
      exact ⟨x, hx, by simpa using hn⟩
    rw [this]
    simp (disch := omega)
    exact H0 _ e1 hm
  have hall : (l.any fun x => !decide (mayR x)) = false := by
    rw [List.any_eq_false]
    intro x hx
    simpa using hm x hx
  rw [hall]
  obtain ⟨hM, fM, pM⟩ := rns_of hm
  obtain ⟨cR, vR, fR⟩ := putR_spec a.can pM a.fitL fM
  have a1 := a.ext e1
  obtain ⟨va, vc, rfl, hvc⟩ := rv.form
  have hlen := a.len
  have key : ∀ g, Ext h g → CallsH Try.prog 35 #[ptrV q] g (fun t30 h_19 =>
      Hp Try.prog false (Go.Instr.buildSlice 90 2 #[(0, t30), (1, .slice va l.length vc)]) (fun t33 h_20 => CallsH Try.prog 37 #[t33] h_20 (fun t34 h_21 => CallsH Try.prog 36 #[t34] h_21 (fun t35 h_22 =>
      Hp Try.prog false (Go.Builtin.len_ #[22] 3 #[t35]) (fun t37 h_23 => Hp Try.prog false (binS .gtr 3 (.tmp 37) (.const (.int .i64 4096)) t37 (.int .i64 4096)) (fun t38 h_24 =>
      CondP t38 (K (.tuple #[(.int .i64 0), (.int .i64 6)]) h_24) (CallsH Try.prog 38 #[ptrV q, t35] h_24 (fun t41 h_25 => CallsH Try.prog 39 #[t35] h_25 (fun t43 h_26 => CallsH Try.prog 39 #[t30] h_26 (fun t45 h_27 =>
      Hp Try.prog false (binS .sub 2 (.tmp 43) (.tmp 45) t43 t45) (fun t46 h_28 => K (.tuple #[t46, (.int .i64 0)]) h_28) h_27 ⟨⟩) ⟨⟩) ⟨⟩) ⟨⟩) ⟨⟩ ⟨⟩) h_23 ⟨⟩) h_22 ⟨⟩) ⟨⟩) ⟨⟩) h_19 ⟨⟩) ⟨⟩ := by
    intro g eg
    refine list_c (a.ext eg) fun wv h2 e2 o2 f2 => ?_
    have r2 := Rns.of o2 (by omega) a.fitL
    obtain ⟨wa, wc, rfl, hwc⟩ := Rns.form r2
    simp (disch := omega)
    refine (⟨_, rfl⟩ : ∃ f, f = h2.push (.cells #[.slice wa L.length wc, .slice va l.length vc] 22)).elim fun h3 eh3 => ?_
    have e3 : Ext h2 h3 := by rw [eh3]; exact (by repeat' (first | (with_reducible exact Ext.refl _) | (with_reducible assumption) | (with_reducible refine push_ext ?_) | (with_reducible refine hset_ext ?_ ?_) | (with_reducible refine Ext.trans ?_ (by assumption)) | omega | (simp; done) | (simp; omega) | (refine Ext.size ?_) | (refine Nat.le_succ_of_le (Ext.size ?_))))
    have q3 : h3[h2.size]? = some (.cells #[.slice wa L.length wc, .slice va l.length vc] 22) := by rw [eh3]; exact get_pushed rfl
    rw [show h2.push (.cells #[.slice wa L.length wc, .slice va l.length vc] 22) = h3 from eh3.symm]
    clear eh3
    refine concat_c q3 (r2.ext e3) (rv.ext (eg.trans (e2.trans e3))) (by simpa using by omega) (by omega) fun cv h4 o4 e4 f4 => ?_
    have o4' : OwnT runT 2 h4 cv ((L ++ l.map rnOf).flatMap (cell2 rnP)) := own_raw o4 (by rw [List.map_append, hM])
    have fLM : Fit (L ++ l.map rnOf) := fun x hx => (List.mem_append.1 hx).elim (a.fitL x) (fM x)
    have pLM : ∀ x ∈ L ++ l.map rnOf, 0 < x.len := fun x hx => (List.mem_append.1 hx).elim (a.can.pos x) (pM x)
    refine together_c o4' fLM pLM (by simp; omega) fun h5 tv R hcR hvR hfR hlR o5 m5 f5 => ?_
    have hR : R = putR L (l.map rnOf) := can_eq hcR cR fun p => by rw [hvR, Cov.app, vR]
    subst hR
    have e5 : Ext h3 h5 := m5.ext_from e4 (fun b hb e => by have := f4 b e; omega)
    have E5 := eg.trans ((e2.trans e3).trans e5)
    have ll := o5.form (by omega)
    obtain ⟨ta, tn, tc, rfl, htn, htc, -⟩ := ll
    have hRl : tn = (putR L (l.map rnOf)).length := by rw [cell2_len] at htn; omega
    subst hRl
    have hB := bytes_fit cR fR
    have hB2 := bytes_fit a.can a.fitL
    by_cases h4k : 4096 < (putR L (l.map rnOf)).length
    · simp (disch := omega)
      exact H1 _ E5 hm h4k
    · simp (disch := omega)
      have hq5 := (a.ext E5).hp.cells
      have r5 := Rns.of o5 (by omega) fR
      refine set_c hq5 r5 (fun b hb => own_q o5 hq5 hb) cR fR (by omega) fun s6 h6 a6 m6 f6 => ?_
      have w6 : Rns h6 (.slice wa L.length wc) L := (r2.ext (e3.trans e5)).mod m6 (fun b hb => (own_q (o2.ext (e3.trans e5)) hq5 hb).2)
      have t6 := r5.mod m6 (fun b hb => (own_q o5 hq5 hb).2)
      refine bytes_c t6 hB fun h7 e7 => ?_
      refine bytes_c (w6.ext e7) hB2 fun h8 e8 => ?_
      simp (disch := omega)
      have z5 := E5.size
      refine H2 s6 h8 hm ⟨a6.ext (e7.trans e8), Mod.extIn ((Mod.of_ext E5).trans m6 (fun b _ e => .inl e)) (e7.trans e8), fun b hb => (f6 b hb).imp .inl (fun e => by omega)⟩
  by_cases h1l : l.length = 1
  · obtain ⟨x, rfl⟩ := List.length_eq_one_iff.1 h1l
    have hx := hm x (by simp)
    obtain ⟨hx1, hx2, hx3, hx4⟩ := rn_of hx
    obtain ⟨ad, c', hv', -, c0, c1⟩ := (rv.ext e1).cell (i := 0) (by simp)
    obtain ⟨rfl, -⟩ : va = some ad ∧ vc = c' := by cases hv'; exact ⟨rfl, rfl⟩
    have c2 : hcell h1 (ad.add 1) = _ := c1
    have c3 := c2
    simp [Go.Addr.add] at c0 c1 c3
    simp (disch := omega) [c0, c1, c2, c3]
    have hxv : rwA (rnP (rnOf x)) = .agg #[.int .i64 x.1, .int .i64 x.2] := by rw [hx1]; rfl
    rw [← hxv]
    refine beside_c a1 hx2 hx4 (fun h2 e2 => ?_) (fun s2 h2 u2 hb2 => ?_)
    · simp (disch := omega)
      exact key _ (e1.trans e2)
    · obtain ⟨ad2, c2', hv2', -, -, d1⟩ := ((rv.ext e1).mod u2.mod (hvF (by simp))).cell (i := 0) (by simp)
      cases hv2'
      simp [Go.Addr.add, elt] at d1
      simp (disch := omega) [d1]
      have hxl : x.2 = ((rnOf x).len : Int) := by have := congrArg Prod.snd hx1; exact this.symm
      have := H2 s2 h2 hm ((LUpd.of_ext a e1).trans u2)
      rw [show putR L ([x].map rnOf) = insR L (rnOf x) from rfl, hb2, show (((bytesR L + (rnOf x).len : Nat)) : Int) - (bytesR L : Int) = x.2 by rw [hxl]; omega] at this
      exact this
  · simp (disch := omega)
    exact key _ e1
theorem Rws.lt {v : Value} {l : List (Int × Int)} (a : Rws h v l) (hne : l ≠ []) {b : Nat} (hb : blkV v = some b) : b < h.size := by
  obtain ⟨ad, c, rfl, -, c0, -⟩ := a.cell (i := 0) (List.length_pos_iff.2 hne)
  cases hb
  rw [Nat.zero_mul, elt_zero] at c0
  unfold hcell at c0
  rcases Nat.lt_or_ge ad.block h.size with x | x
  · exact x
  · rw [Array.getElem?_eq_none x] at c0; cases c0
theorem New_c {v : Value} {l : List (Int × Int)} (rv : Rws h v l) (hl : l.length < 90000)
    (H0 : ∀ h', Ext h h' → ¬ (∀ x ∈ l, mayR x) → K (.tuple #[.pointer none, .int .i64 2]) h')
    (H1 : ∀ h', Ext h h' → (∀ x ∈ l, mayR x) → 4096 < (putR [] (l.map rnOf)).length → K (.tuple #[.pointer none, .int .i64 6]) h')
    (H2 : ∀ q s h', (∀ x ∈ l, mayR x) → LqAt h' q s (putR [] (l.map rnOf)) → Ext h h' → (∀ b, foot q s b → h.size ≤ b) → K (.tuple #[ptrV q, .int .i64 0]) h') :
    CallsH Try.prog 8 #[v] h K ⟨⟩ := by
  refine n8_calls ?_
  unfold n8
  refine empty_c fun q mf mt h1 e1 zf zt zq a1 => ?_
  have hft : ∀ b, foot q ⟨.slice none 0 0, [], mf, mt⟩ b → h.size ≤ b := by
    rintro b (rfl | rfl | rfl | e | ⟨e, he, -⟩)
    · exact zq
    · exact zf
    · exact zt
    · cases e
    · cases he
  have z1 := e1.size
  refine Put_c a1 (rv.ext e1) hl (fun hne b hb hf => by have := rv.lt hne hb; have := hft b hf; omega) (fun h2 e2 hm => ?_) (fun h2 e2 hm hf => ?_) (fun s2 h2 hm u2 => ?_)
  · simp (disch := omega)
    exact H0 _ (e1.trans e2) hm
  · simp (disch := omega)
    exact H1 _ (e1.trans e2) hm hf
  · simp (disch := omega)
    exact H2 q s2 h2 hm u2.st (u2.mod.ext_from e1 (fun b hb hf => by have := hft b hf; omega)) (fun b hb => (u2.foot b hb).elim (hft b) (fun e => by omega))
end Go.Proofs.Ytgcllbelgakjgaa
set_option linter.unusedSimpArgs false
set_option linter.unusedVariables false
namespace Go.Proofs.Ytgcllbelgakjgaa
open Go.Vc Go.Sort
variable {K : Value → Heap → Prop} {h : Heap}

theorem Size_c {q : Nat} {s : Lq} {L : List Rn} (a : LqAt h q s L) (H : ∀ h', Ext h h' → K (.tuple #[.int .i64 L.length, .int .i64 (bytesR L : Nat)]) h') : CallsH Try.prog 12 #[ptrV q] h K ⟨⟩ := by
  refine n12_calls ?_
  unfold n12
  refine list_c a fun v h1 e1 o1 f1 => ?_
  have hl := a.len
  have r1 := Rns.of o1 (by omega) a.fitL
  obtain ⟨va, vc, rfl, hvc⟩ := Rns.form r1
  simp (disch := omega)
  refine bytes_c r1 (bytes_fit a.can a.fitL) fun h2 e2 => ?_
  exact H _ (e1.trans e2)
theorem Over_c {q : Nat} {s : Lq} {L : List Rn} {x : Int × Int} (a : LqAt h q s L) (hx : i64 x.1 ∧ i64 x.2) (H0 : ∀ h', Ext h h' → ¬ mayR x → K (.tuple #[.int .i64 0, .int .i64 2]) h')
    (H1 : ∀ h', Ext h h' → mayR x → K (.tuple #[.int .i64 (overR (rnOf x) L : Nat), .int .i64 0]) h') : CallsH Try.prog 17 #[ptrV q, rwA x] h K ⟨⟩ := by
  refine n17_calls ?_
  unfold n17 rwA
  simp (disch := omega)
  refine (⟨_, rfl⟩ : ∃ f, f = h.push (.cells #[.int .i64 x.1, .int .i64 x.2] runT)).elim fun g eg => ?_
  have e0 : Ext h g := by rw [eg]; exact (by repeat' (first | (with_reducible exact Ext.refl _) | (with_reducible assumption) | (with_reducible refine push_ext ?_) | (with_reducible refine hset_ext ?_ ?_) | (with_reducible refine Ext.trans ?_ (by assumption)) | omega | (simp; done) | (simp; omega) | (refine Ext.size ?_) | (refine Nat.le_succ_of_le (Ext.size ?_))))
  have q0 : g[h.size]? = some (.cells #[.int .i64 x.1, .int .i64 x.2] runT) := by rw [eg]; exact get_pushed rfl
  rw [show h.push (.cells #[.int .i64 x.1, .int .i64 x.2] 24) = g from eg.symm]
  clear eg
  refine noneN_c (a.ext e0).hp.cells ?_
  have x0 := cellOf (i := 0) q0 rfl
  have x1 := cellOf (i := 1) q0 rfl
  simp (disch := omega) [x0, x1]
  refine may_c (x := x) hx fun h2 e2 => ?_
  by_cases hm : mayR x
  · simp (disch := omega) [hm]
    have y0 := hcell_ext e2 x0
    have y1 := hcell_ext e2 x1
    simp (disch := omega) [y0, y1]
    refine list_c (a.ext (e0.trans e2)) fun v h3 e3 o3 f3 => ?_
    have hl := a.len
    have r3 := Rns.of o3 (by omega) a.fitL
    have z0 := hcell_ext e3 y0
    have z1 := hcell_ext e3 y1
    obtain ⟨m1, m2, m3, m4⟩ := rn_of hm
    have hxv : rwA (rnP (rnOf x)) = .agg #[.int .i64 x.1, .int .i64 x.2] := by rw [m1]; rfl
    refine ⟨by simp (disch := omega) [z0, z1], ?_⟩
    rw [← hxv]
    refine over_c r3 a.fitL m4 (bytes_fit a.can a.fitL) fun h4 e4 => ?_
    exact H1 _ ((e0.trans e2).trans (e3.trans e4)) hm
  · simp (disch := omega) [hm]
    exact H0 _ (e0.trans e2) hm
theorem Same_c {p q : Nat} {s t : Lq} {L M : List Rn} (a : LqAt h p s L) (b : LqAt h q t M) (H : ∀ h', Ext h h' → K (.bool (decide (L = M))) h') : CallsH Try.prog 19 #[ptrV p, ptrV q] h K ⟨⟩ := by
  refine n19_calls ?_
  unfold n19
  refine noneN_c a.hp.cells ?_
  simp (disch := omega)
  refine noneN_c b.hp.cells ?_
  simp (disch := omega)
  refine list_c a fun v h1 e1 o1 f1 => ?_
  refine list_c (b.ext e1) fun w h2 e2 o2 f2 => ?_
  have la := a.len
  have lb := b.len
  refine equal_c (L := L) (M := M) (Rns.of (o1.ext e2) (by omega) a.fitL) (Rns.of o2 (by omega) b.fitL) ?_
  exact H _ (e1.trans e2)
theorem Same_n {p : Nat} {s : Lq} {L : List Rn} {v : Value} (a : LqAt h p s L) (b : Lno h v) (H : K (.bool false) h) : CallsH Try.prog 19 #[ptrV p, v] h K ⟨⟩ := by
  refine n19_calls ?_
  unfold n19
  refine noneN_c a.hp.cells ?_
  simp (disch := omega)
  refine noneY_c b ?_
  simp (disch := omega)
  refine noneN_c a.hp.cells ?_
  simp (disch := omega)
  exact H
theorem Same_nn {v w : Value} (a : Lno h v) (b : Lno h w) (H : K (.bool true) h) : CallsH Try.prog 19 #[v, w] h K ⟨⟩ := by
  refine n19_calls ?_
  unfold n19
  refine noneY_c a ?_
  simp (disch := omega)
  refine noneY_c a ?_
  simp (disch := omega)
  refine noneY_c b ?_
  simp (disch := omega)
  exact H
theorem Copy_c {q : Nat} {s : Lq} {L : List Rn} (a : LqAt h q s L) (H : ∀ p t h', LqAt h' p t L → Ext h h' → (∀ b, foot p t b → h.size ≤ b) → K (ptrV p) h') : CallsH Try.prog 15 #[ptrV q] h K ⟨⟩ := by
  refine n15_calls ?_
  unfold n15
  refine noneN_c a.hp.cells ?_
  simp (disch := omega)
  refine empty_c fun p mf mt h1 e1 zf zt zq a1 => ?_
  refine list_c (a.ext e1) fun v h2 e2 o2 f2 => ?_
  have hl := a.len
  have hq2 := (a1.ext e2).hp.cells
  have z1 := e1.size
  have z2 := e2.size
  refine set_c hq2 (Rns.of o2 (by omega) a.fitL) (fun b hb => own_q o2 hq2 hb) a.can a.fitL hl fun t h3 a3 m3 f3 => ?_
  exact H p t h3 a3 (m3.ext_from (e1.trans e2) (fun b hb e => by omega)) (fun b hb => (f3 b hb).elim (fun e => by omega) (fun e => by omega))
set_option maxHeartbeats 2000000 in
theorem Cut_c {q : Nat} {s : Lq} {L : List Rn} {x : Int × Int} (a : LqAt h q s L) (hx : i64 x.1 ∧ i64 x.2) (H0 : ∀ h', Ext h h' → ¬ mayR x → K (.tuple #[.int .i64 0, .int .i64 2]) h')
    (H1 : ∀ h', Ext h h' → mayR x → 4096 < (lessR (rnOf x) L).length → K (.tuple #[.int .i64 0, .int .i64 6]) h')
    (H2 : ∀ s' h', mayR x → LUpd h h' q s s' (lessR (rnOf x) L) → K (.tuple #[.int .i64 (overR (rnOf x) L : Nat), .int .i64 0]) h') : CallsH Try.prog 11 #[ptrV q, rwA x] h K ⟨⟩ := by
  refine n11_calls ?_
  unfold n11 rwA
  simp (disch := omega)
  refine (⟨_, rfl⟩ : ∃ f, f = h.push (.cells #[.int .i64 x.1, .int .i64 x.2] runT)).elim fun g eg => ?_
  have e0 : Ext h g := by rw [eg]; exact (by repeat' (first | (with_reducible exact Ext.refl _) | (with_reducible assumption) | (with_reducible refine push_ext ?_) | (with_reducible refine hset_ext ?_ ?_) | (with_reducible refine Ext.trans ?_ (by assumption)) | omega | (simp; done) | (simp; omega) | (refine Ext.size ?_) | (refine Nat.le_succ_of_le (Ext.size ?_))))
  have q0 : g[h.size]? = some (.cells #[.int .i64 x.1, .int .i64 x.2] runT) := by rw [eg]; exact get_pushed rfl
  rw [show h.push (.cells #[.int .i64 x.1, .int .i64 x.2] 24) = g from eg.symm]
  clear eg
  refine noneN_c (a.ext e0).hp.cells ?_
  have x0 := cellOf (i := 0) q0 rfl
  have x1 := cellOf (i := 1) q0 rfl
  simp (disch := omega) [x0, x1]
  refine may_c (x := x) hx fun h2 e2 => ?_
  by_cases hm : mayR x
  case neg =>
    simp (disch := omega) [hm]
    exact H0 _ (e0.trans e2) hm
  simp (disch := omega) [hm]
  obtain ⟨m1, m2, m3, m4⟩ := rn_of hm
  have hx1 : x.1 = ((rnOf x).at_ : Int) := by have := congrArg Prod.fst m1; exact this.symm
  have hx2 : x.2 = ((rnOf x).len : Int) := by have := congrArg Prod.snd m1; exact this.symm
  rw [hx1] at x0
  rw [hx2] at x1
  generalize rnOf x = X at *
  refine list_c (a.ext (e0.trans e2)) fun v h3 e3 o3 f3 => ?_
  have hl := a.len
  have r3 := Rns.of o3 (by omega) a.fitL
  obtain ⟨va, vc, rfl, hvc⟩ := Rns.form r3
  have z0 := hcell_ext (e2.trans e3) x0
  have z1 := hcell_ext (e2.trans e3) x1
  have hsz : h.size < h3.size := by have := (e2.trans e3).size; have := get_some_lt q0; omega
  simp (disch := omega)
  refine loopX2 (α := Nat × Value) (fun a => a.2) (fun a => .int .i64 a.1) (fun a' g => a'.1 ≤ L.length ∧ Ext h3 g ∧ OwnT runT 2 g a'.2 ((lessR X (L.take a'.1)).flatMap (cell2 rnP)) ∧ ∀ b, blkV a'.2 = some b → h3.size ≤ b) (fun a => L.length - a.1) (0, .slice none 0 0) ⟨rfl, rfl⟩ ⟨by simp, .refl _, by simpa [lessR] using OwnT.nil, (fun b hb => by cases hb)⟩ ?_
  rintro ⟨i, w⟩ g4 ⟨hi, e4, o4, f4⟩ Y hY
  dsimp only at hi e4 o4 f4 hY ⊢
  by_cases hin : i < L.length
  · obtain ⟨ad, c', hv', -, c0, c1⟩ := Rns.cell (r3.ext e4) hin
    obtain ⟨rfl, -⟩ : va = some ad ∧ vc = c' := by cases hv'; exact ⟨rfl, rfl⟩
    have htk : lessR X (L.take (i + 1)) = lessR X (L.take i) ++ lessO X L[i] := by
      rw [List.take_succ_eq_append_getElem hin]
      unfold lessR
      rw [List.flatMap_append]; simp
    have hfy := a.fitL _ (List.getElem_mem hin)
    have hlw : (lessR X (L.take i)).length ≤ 2 * i := by
      have : ∀ M : List Rn, (lessR X M).length ≤ 2 * M.length := fun M => by
        induction M with
        | nil => simp [lessR]
        | cons y M ih =>
          have e : lessR X (y :: M) = lessO X y ++ lessR X M := by unfold lessR; rw [List.flatMap_cons]
          have : (lessO X y).length ≤ 2 := by
            unfold lessO
            rw [List.length_append]
            have : ∀ (p : Prop) [Decidable p] (z : Rn), (if p then [z] else []).length ≤ 1 := fun p _ z => by split <;> simp
            have h1 := this (y.at_ < min y.en X.at_) ⟨y.at_, min y.en X.at_ - y.at_⟩
            have h2 := this (max y.at_ X.en < y.en) ⟨max y.at_ X.en, y.en - max y.at_ X.en⟩
            omega
          rw [e, List.length_append, List.length_cons]; omega
      have := this (L.take i)
      simp at this; omega
    generalize L[i] = y at *
    generalize lessR X (L.take i) = acc at *
    have zz := e4.size
    have w0 := hcell_ext e4 z0
    have w1 := hcell_ext e4 z1
    unfold Rn.en at hfy m4
    simp (disch := omega)
    refine JoinN.mk ?_
    refine JoinN.mk ?_
    simp (disch := omega) [c0, c1]
    refine (⟨_, rfl⟩ : ∃ f, f = hset (hset (Array.push g4 (.cells #[.int .i64 0, .int .i64 0] runT)) ⟨g4.size, 0, none⟩ (.int .i64 (y.at_ : Nat))) ⟨g4.size, 1, none⟩ (.int .i64 (y.len : Nat))).elim fun gy egy => ?_
    have ey : Ext g4 gy := by rw [egy]; exact (by repeat' (first | (with_reducible exact Ext.refl _) | (with_reducible assumption) | (with_reducible refine push_ext ?_) | (with_reducible refine hset_ext ?_ ?_) | (with_reducible refine Ext.trans ?_ (by assumption)) | omega | (simp; done) | (simp; omega) | (refine Ext.size ?_) | (refine Nat.le_succ_of_le (Ext.size ?_))))
    have zy : gy.size = g4.size + 1 := by rw [egy]; simp
    have by_ : gy[g4.size]? = some (.cells #[.int .i64 (y.at_ : Nat), .int .i64 (y.len : Nat)] runT) := by
      rw [egy]
      refine (obj_set (obj_set (get_pushed rfl))).trans ?_
      simp
    rw [show hset (hset (Array.push g4 (.cells #[.int .i64 0, .int .i64 0] 24)) ⟨g4.size, 0, none⟩ (.int .i64 (y.at_ : Nat))) ⟨g4.size, 1, none⟩ (.int .i64 (y.len : Nat)) = gy from egy.symm]
    clear egy
    have wlt : ∀ b, blkV w = some b → b < g4.size := fun b hb => o4.lt hb
    unfold lessO Rn.en at htk
    rw [← List.append_assoc] at htk
    refine JoinN_in1 (fun w' g5 => OwnT runT 2 g5 w' ((acc ++ (if y.at_ < min (y.at_ + y.len) X.at_ then [(⟨y.at_, min (y.at_ + y.len) X.at_ - y.at_⟩ : Rn)] else [])).flatMap (cell2 rnP)) ∧ Ext h3 g5 ∧ g5[g4.size]? = some (.cells #[.int .i64 (y.at_ : Nat), .int .i64 (y.len : Nat)] runT) ∧ gy.size ≤ g5.size ∧ ∀ b, blkV w' = some b → h3.size ≤ b) (fun kk hkk => ?_) (fun w' g5 hw => ?_)
    · have d0 := cellOf (i := 0) by_ rfl
      have d1 := cellOf (i := 1) by_ rfl
      have v0 := hcell_ext ey w0
      by_cases k1 : y.at_ < min (y.at_ + y.len) X.at_
      · rw [if_pos k1] at hkk
        simp (disch := omega) [d0, d1, v0, Hp_min2]
        have hmn : (if (X.at_ : Int) - (y.at_ : Int) < (y.len : Int) then (X.at_ : Int) - (y.at_ : Int) else (y.len : Int)) = ((min (y.at_ + y.len) X.at_ - y.at_ : Nat) : Int) := by split <;> omega
        rw [hmn]
        refine Hp_appR (L := acc) (x := ⟨y.at_, min (y.at_ + y.len) X.at_ - y.at_⟩) rfl (o4.ext ey) (by omega) fun v5 h5 o5 m5 f5 => ?_
        refine hkk _ _ ⟨o5, m5.ext_from (e4.trans ey) (fun b hb e => by have := f4 b e; omega), (m5.block _ (get_some_lt by_) (fun e => by have := wlt _ e; omega)).trans by_, m5.size, fun b hb => (f5 b hb).elim (f4 b) (fun e => by omega)⟩
      · rw [if_neg k1, List.append_nil] at hkk
        simp (disch := omega) [d0, d1, v0, Hp_min2]
        exact hkk _ _ ⟨o4.ext ey, e4.trans ey, by_, Nat.le_refl _, f4⟩
    · obtain ⟨o5, e5, b5, s5, f5⟩ := hw
      have d0 := cellOf (i := 0) b5 rfl
      have d1 := cellOf (i := 1) b5 rfl
      have v0 := hcell_ext e5 z0
      have v1 := hcell_ext e5 z1
      have hl5 : (acc ++ (if y.at_ < min (y.at_ + y.len) X.at_ then [(⟨y.at_, min (y.at_ + y.len) X.at_ - y.at_⟩ : Rn)] else [])).length < 1000000 := by
        rw [List.length_append]
        have : (if y.at_ < min (y.at_ + y.len) X.at_ then [(⟨y.at_, min (y.at_ + y.len) X.at_ - y.at_⟩ : Rn)] else []).length ≤ 1 := by split <;> simp
        omega
      generalize acc ++ (if y.at_ < min (y.at_ + y.len) X.at_ then [(⟨y.at_, min (y.at_ + y.len) X.at_ - y.at_⟩ : Rn)] else []) = acc5 at *
      have hmx : (if (y.at_ : Int) < (X.at_ : Int) + (X.len : Int) then (X.at_ : Int) + (X.len : Int) else (y.at_ : Int)) = ((max y.at_ (X.at_ + X.len) : Nat) : Int) := by split <;> omega
      simp (disch := omega) [d0, d1, v0, v1, Hp_max2]
      rw [hmx]
      by_cases k2 : max y.at_ (X.at_ + X.len) < y.at_ + y.len
      · rw [if_pos k2] at htk
        simp (disch := omega) [d0, d1]
        rw [show ((y.at_ : Int) + (y.len : Int) - ((max y.at_ (X.at_ + X.len) : Nat) : Int)) = ((y.at_ + y.len - max y.at_ (X.at_ + X.len) : Nat) : Int) by omega]
        refine Hp_appR (L := acc5) (x := ⟨max y.at_ (X.at_ + X.len), y.at_ + y.len - max y.at_ (X.at_ + X.len)⟩) rfl o5 hl5 fun v6 h6 o6 m6 f6 => ?_
        simp (disch := omega)
        refine hY (i + 1, v6) _ _ _ rfl (by simp) ⟨hin, m6.ext_from e5 (fun b hb e => by have := f5 b e; omega), by dsimp only; rw [htk]; exact o6, fun b hb => (f6 b hb).elim (f5 b) (fun e => by have := e5.size; omega)⟩ (by dsimp only; omega)
      · rw [if_neg k2, List.append_nil] at htk
        simp (disch := omega) [d0, d1]
        exact hY (i + 1, w') _ _ _ rfl (by simp) ⟨hin, e5, by dsimp only; rw [htk]; exact o5, f5⟩ (by dsimp only; omega)
  · obtain rfl : i = L.length := by omega
    rw [List.take_length] at o4
    have ob := o4.form (by omega)
    obtain ⟨wa, wn, wc, rfl, hwn, hwc, -⟩ := ob
    rw [cell2_len] at hwn
    obtain rfl : wn = (lessR X L).length := by omega
    have E4 := (e0.trans e2).trans (e3.trans e4)
    have hbl := lessR_bytes (x := X) (l := L)
    have hbf := bytes_fit a.can a.fitL
    have cR := lessR_can m2 a.can
    have fR : Fit (lessR X L) := fun z hz => by
      obtain ⟨y, hy, h1, h2, h3⟩ := lessR_mem hz
      have := a.fitL y hy
      unfold Rn.en at *; omega
    by_cases h4k : 4096 < (lessR X L).length
    · simp (disch := omega)
      exact H1 _ E4 hm h4k
    · simp (disch := omega)
      have hq5 := (a.ext E4).hp.cells
      have r5 := Rns.of o4 (by omega) fR
      refine set_c hq5 r5 (fun b hb => own_q o4 hq5 hb) cR fR (by omega) fun s6 h6 a6 m6 f6 => ?_
      have w6 : Rns h6 (.slice va L.length vc) L := (r3.ext e4).mod m6 (fun b hb => (own_q (o3.ext e4) hq5 hb).2)
      have t6 := r5.mod m6 (fun b hb => (own_q o4 hq5 hb).2)
      refine bytes_c w6 hbf fun h7 e7 => ?_
      refine bytes_c (t6.ext e7) (by omega) fun h8 e8 => ?_
      simp (disch := omega)
      have z5 := E4.size
      have hK := H2 s6 h8 hm ⟨a6.ext (e7.trans e8), Mod.extIn ((Mod.of_ext E4).trans m6 (fun b _ e => .inl e)) (e7.trans e8), fun b hb => (f6 b hb).imp .inl (fun e => by omega)⟩
      rw [show ((bytesR L : Int) - (bytesR (lessR X L) : Int)) = ((overR X L : Nat) : Int) by omega]
      exact hK
end Go.Proofs.Ytgcllbelgakjgaa
