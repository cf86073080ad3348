/- Later: a run taken out of the midst; the longest one. Later: the first run taken off. Later: Next. -/
import Derived.Test.YtgcllbelgakjgaaLatC
set_option linter.unusedSimpArgs false
set_option linter.unusedVariables false
namespace Go.Proofs.Ytgcllbelgakjgaa
open Go.Vc Go.Sort
variable {K : Value → Heap → Prop} {h : Heap}

set_option maxHeartbeats 2000000 in
theorem drop_c {q : Nat} {s : Lq} {L : List Rn} {e : Ent} (a : LqAt h q s L) (he : e ∈ s.E) (hl : 0 < e.r.len) (H : ∀ s' h', LUpd h h' q s s' (lessR e.r L) → K (.tuple #[]) h') :
    CallsH Try.prog 41 #[ptrV q, ptrV e.b] h K ⟨⟩ := by
  refine n41_calls ?_
  unfold n41 ptrV
  obtain ⟨F, mF, tF⟩ := a.fm
  obtain ⟨G, mG, tG⟩ := a.tm
  have nF := a.mapne (.inl rfl)
  have nG := a.mapne (.inr rfl)
  have ee := a.hp.rq e he
  have hfe := a.fit e he
  unfold Rn.en at hfe
  have c2 := cellOf (i := 2) a.hp.cells rfl
  have k0 := ee.c0
  simp (disch := omega) [c2, k0]
  refine Hp_delete laKey mF fun h2 F2 m2 => ?_
  have H2 : HpAt h2 q (.map (some s.mf)) (.map (some s.mt)) s.hl s.E := a.hp.mod m2 (Ne.symm nF.1) (fun b hb e9 => nF.2.1 (by rw [← e9]; exact hb)) nF.2.2
  have G2 := mG.mod m2 (Ne.symm a.mne)
  have e2 := H2.rq e he
  have c3 := cellOf (i := 3) H2.cells rfl
  have w0 := e2.c0
  have w1 := e2.c1
  simp (disch := omega) [c3, w0, w1]
  rw [show ((e.r.at_ : Int) + (e.r.len : Int)) = ((e.r.en : Nat) : Int) by unfold Rn.en; omega]
  refine Hp_delete laKey G2 fun h3 G3 m3 => ?_
  have H3 : HpAt h3 q (.map (some s.mf)) (.map (some s.mt)) s.hl s.E := H2.mod m3 (Ne.symm nG.1) (fun b hb e9 => nG.2.1 (by rw [← e9]; exact hb)) nG.2.2
  have e3 := H3.rq e he
  have v1 := e3.c1
  have v2 : hfrozen h3 ⟨e.b, 1, none⟩ = false := frzOf e3
  simp (disch := omega) [v1, v2]
  refine (⟨_, rfl⟩ : ∃ f, f = hset h3 ⟨e.b, 1, none⟩ (.int .i64 0)).elim fun h4 eh4 => ?_
  have m4 : Mod (· = e.b) h3 h4 := by rw [eh4]; exact Mod.set h3 ⟨e.b, 1, none⟩ _
  have b4 : EntAt h4 ⟨e.b, ⟨e.r.at_, 0⟩⟩ := by
    rw [eh4]
    refine (obj_set e3).trans ?_
    simp
  rw [← eh4]
  clear eh4
  obtain ⟨E1, E2, hE⟩ := List.append_of_mem he
  obtain ⟨A, B, hL⟩ := List.append_of_mem (a.live.mem_iff.1 (List.mem_map_of_mem (mem_lives.2 ⟨he, hl⟩)))
  have hn := a.blks
  have inA := a.injA
  have inE := a.injE
  have hlive := a.live
  have hord := a.ord
  rw [hE] at H3 hn tF tG inA inE hlive hord
  rw [hL] at hlive
  have H4 := H3.change (e' := ⟨e.b, ⟨e.r.at_, 0⟩⟩) hn rfl m4 b4
  have hmb : ∀ b, b = s.mf ∨ b = s.mt → b ≠ e.b := fun b hb e9 => by
    rcases hb with rfl | rfl
    · exact nF.2.2 e he e9.symm
    · exact nG.2.2 e he e9.symm
  have hcL : Vc.Can (A ++ e.r :: B) := by rw [← hL]; exact a.can
  have hless : lessR e.r L = A ++ B := by rw [hL]; exact less_mid hcL
  have hM : ∀ y ∈ [(⟨e.b, ⟨e.r.at_, 0⟩⟩ : Ent)], y.r.len = 0 := fun y hy => by simp at hy; subst hy; rfl
  have t1 := tabs_gone (M := [⟨e.b, ⟨e.r.at_, 0⟩⟩]) tF mF.nodup hn hl hM (fun y hy hl' he' => inA y hy e (by simp) hl' hl he')
  have t2 := tabs_gone (M := [⟨e.b, ⟨e.r.at_, 0⟩⟩]) tG mG.nodup hn hl hM (fun y hy hl' he' => inE y hy e (by simp) hl' hl he')
  refine H ⟨s.hl, E1 ++ ⟨e.b, ⟨e.r.at_, 0⟩⟩ :: E2, s.mf, s.mt⟩ h4 ⟨⟨H4, ⟨_, (F2.mod m3 a.mne).mod m4 (hmb _ (.inl rfl)), t1⟩, ⟨_, G3.mod m4 (hmb _ (.inr rfl)), t2⟩, a.mne, by simpa using hn, hok_change hord rfl, ?_, ?_, ?_, ?_⟩, ?_, ?_⟩
  · rw [hless]
    exact perm_gone (M := [⟨e.b, ⟨e.r.at_, 0⟩⟩]) hM (perm_rest hl hlive)
  · rw [hless]; exact (can_mid hcL).1
  · intro y hy
    rcases List.mem_append.1 hy with hy | hy
    · exact a.fit y (by rw [hE]; simp [hy])
    · rcases List.mem_cons.1 hy with rfl | hy
      · unfold Rn.en; dsimp only; omega
      · exact a.fit y (by rw [hE]; simp [hy])
  · have := a.few; rw [hE] at this; simpa using this
  · refine (m2.mono (fun b _ e9 => .inr (.inl e9)) |>.trans m3 fun b _ e9 => ?_).trans m4 fun b _ e9 => ?_
    · exact .inr (.inr (.inl e9))
    · exact .inr (.inr (.inr (.inr ⟨e, he, e9.symm⟩)))
  · rintro b (rfl | rfl | rfl | e9 | ⟨y, hy, rfl⟩)
    · exact .inl (.inl rfl)
    · exact .inl (.inr (.inl rfl))
    · exact .inl (.inr (.inr (.inl rfl)))
    · exact .inl (.inr (.inr (.inr (.inl e9))))
    · refine .inl (.inr (.inr (.inr (.inr ?_))))
      rcases List.mem_append.1 hy with hy | hy
      · exact ⟨y, by rw [hE]; simp [hy], rfl⟩
      · rcases List.mem_cons.1 hy with rfl | hy
        · exact ⟨e, he, rfl⟩
        · exact ⟨y, by rw [hE]; simp [hy], rfl⟩

def BestO (M : List Ent) : Option Ent → Prop
  | none => ∀ y ∈ M, y.r.len = 0
  | some e => e ∈ M ∧ 0 < e.r.len ∧ ∀ y ∈ M, 0 < y.r.len → y.r.len < e.r.len ∨ (y.r.len = e.r.len ∧ e.r.at_ ≤ y.r.at_)
def bestV : Option Ent → Value
  | none => .pointer none
  | some e => .pointer (some ⟨e.b, 0, none⟩)
/-- The longest one, the first of like ones. -/
def IsBest (x : Rn) (L : List Rn) : Prop := x ∈ L ∧ ∀ y ∈ L, y.len < x.len ∨ (y.len = x.len ∧ x.at_ ≤ y.at_)
set_option maxHeartbeats 4000000 in
theorem Greatest_c {q : Nat} {s : Lq} {L : List Rn} (a : LqAt h q s L) (H0 : ∀ h', Ext h h' → L = [] → K (.tuple #[rwA (0, 0), .int .i64 7]) h')
    (H1 : ∀ x s' h', IsBest x L → LUpd h h' q s s' (lessR x L) → K (.tuple #[rwA (rnP x), .int .i64 0]) h') : CallsH Try.prog 16 #[ptrV q] h K ⟨⟩ := by
  refine n16_calls ?_
  unfold n16
  simp (disch := omega)
  refine (⟨_, rfl⟩ : ∃ f, f = h.push (.cells #[.int .i64 0, .int .i64 0] runT)).elim fun g eg => ?_
  have e0 : Ext h g := by rw [eg]; exact (by repeat' (first | (with_reducible exact Ext.refl _) | (with_reducible assumption) | (with_reducible refine push_ext ?_) | (with_reducible refine hset_ext ?_ ?_) | (with_reducible refine Ext.trans ?_ (by assumption)) | omega | (simp; done) | (simp; omega) | (refine Ext.size ?_) | (refine Nat.le_succ_of_le (Ext.size ?_))))
  have q0 : g[h.size]? = some (.cells #[.int .i64 0, .int .i64 0] runT) := by rw [eg]; exact get_pushed rfl
  rw [show h.push (.cells #[.int .i64 0, .int .i64 0] 24) = g from eg.symm]
  clear eg
  have aG := a.ext e0
  refine noneN_c aG.hp.cells ?_
  have c0 := cellOf (i := 0) aG.hp.cells rfl
  obtain ⟨ha, hc, hv, hhc, -⟩ := a.hp.form
  rw [hv] at c0
  have hfew := a.few
  unfold ptrV
  simp (disch := omega) [c0]
  refine loopX2 (α := Nat × Option Ent) (fun a => bestV a.2) (fun a => .int .i64 a.1) (fun a' g' => a'.1 ≤ s.E.length ∧ g' = g ∧ BestO (s.E.take a'.1) a'.2) (fun a => s.E.length - a.1) (0, none) ⟨rfl, rfl⟩ ⟨by simp, rfl, by simp [BestO]⟩ ?_
  rintro ⟨i, o⟩ g' ⟨hi, rfl, hb⟩ X hX
  dsimp only at hi hb hX ⊢
  by_cases hin : i < s.E.length
  · obtain ⟨b, c, hv', -, ci, -⟩ := aG.hp.cell hin
    have hab : ha = some ⟨b, 0, none⟩ := by rw [hv] at hv'; cases hv'; rfl
    subst hab
    have hmem : s.E[i] ∈ s.E := List.getElem_mem hin
    have ei := aG.hp.rq _ hmem
    have k0 := ei.c0
    have k1 := ei.c1
    have htk := List.take_succ_eq_append_getElem hin
    have hfi := a.fit _ hmem
    generalize s.E[i] = e at *
    simp (disch := omega)
    refine JoinN.mk ?_
    refine JoinN.mk ?_
    have keep : BestO (s.E.take (i + 1)) o → X (bestV o) (.int .i64 ((i : Int) + 1)) g' := fun hh => hX (i + 1, o) _ _ _ rfl (by simp) ⟨hin, rfl, hh⟩ (by dsimp only; omega)
    have take : BestO (s.E.take (i + 1)) (some e) → X (.pointer (some ⟨e.b, 0, none⟩)) (.int .i64 ((i : Int) + 1)) g' := fun hh => hX (i + 1, some e) _ _ _ rfl (by simp) ⟨hin, rfl, hh⟩ (by dsimp only; omega)
    rw [htk] at keep take
    by_cases z1 : 0 < e.r.len
    · cases o with
      | none =>
        unfold bestV
        simp (disch := omega) [ci, k0, k1]
        refine take ⟨by simp, z1, fun y hy hl => ?_⟩
        rcases List.mem_append.1 hy with hy | hy
        · have := hb y hy; omega
        · simp at hy; subst hy; exact .inr ⟨rfl, Nat.le_refl _⟩
      | some o =>
        obtain ⟨b1, b2, b3⟩ := hb
        have hoE : o ∈ s.E := List.mem_of_mem_take b1
        have eo := aG.hp.rq o hoE
        have d0 := eo.c0
        have d1 := eo.c1
        have hfo := a.fit o hoE
        unfold bestV at keep ⊢
        have old : (e.r.len < o.r.len ∨ (e.r.len = o.r.len ∧ o.r.at_ ≤ e.r.at_)) → X (.pointer (some ⟨o.b, 0, none⟩)) (.int .i64 ((i : Int) + 1)) g' := fun hh => keep ⟨by simp [b1], b2, fun y hy hl => by
          rcases List.mem_append.1 hy with hy | hy
          · exact b3 y hy hl
          · simp at hy; subst hy; exact hh⟩
        have new : (o.r.len < e.r.len ∨ (o.r.len = e.r.len ∧ e.r.at_ ≤ o.r.at_)) → X (.pointer (some ⟨e.b, 0, none⟩)) (.int .i64 ((i : Int) + 1)) g' := fun hh => take ⟨by simp, z1, fun y hy hl => by
          rcases List.mem_append.1 hy with hy | hy
          · have := b3 y hy hl; omega
          · simp at hy; subst hy; exact .inr ⟨rfl, Nat.le_refl _⟩⟩
        unfold Rn.en at hfi hfo
        by_cases z2 : o.r.len < e.r.len
        · simp (disch := omega) [ci, k0, k1, d0, d1]
          exact new (.inl z2)
        · by_cases z3 : e.r.len = o.r.len
          · by_cases z4 : e.r.at_ < o.r.at_
            · simp (disch := omega) [ci, k0, k1, d0, d1, z3]
              exact new (.inr ⟨z3.symm, by omega⟩)
            · simp (disch := omega) [ci, k0, k1, d0, d1, z3]
              exact old (.inr ⟨z3, by omega⟩)
          · simp (disch := omega) [ci, k0, k1, d0, d1]
            exact old (.inl (by omega))
    · simp (disch := omega) [ci, k0, k1]
      refine keep ?_
      cases o with
      | none =>
        intro y hy
        rcases List.mem_append.1 hy with hy | hy
        · exact hb y hy
        · simp at hy; subst hy; omega
      | some o =>
        refine ⟨by simp [hb.1], hb.2.1, fun y hy hl => ?_⟩
        rcases List.mem_append.1 hy with hy | hy
        · exact hb.2.2 y hy hl
        · simp at hy; subst hy; omega
  · obtain rfl : i = s.E.length := by omega
    rw [List.take_length] at hb
    have f0 : hfrozen g' ⟨h.size, 0, none⟩ = false := frzOf q0
    have f1 : hfrozen g' ⟨h.size, 1, none⟩ = false := frzOf q0
    have x0 := cellOf (i := 0) q0 rfl
    have x1 := cellOf (i := 1) q0 rfl
    cases o with
    | none =>
      have hL : L = [] := by
        have := a.live.length_eq
        have h9 : lives s.E = [] := by
          unfold lives
          rw [List.filter_eq_nil_iff]
          intro y hy
          have := hb y hy
          simp; omega
        rw [h9] at this
        exact List.length_eq_zero_iff.1 (by simpa using this.symm)
      unfold bestV
      simp (disch := omega) [x0, x1, f0, f1]
      exact H0 _ (by
        have m := Mod.setIn (v := .int .i64 0) (a := ⟨h.size, 1, none⟩) (Mod.set g' ⟨h.size, 0, none⟩ (.int .i64 0)) (.inl rfl)
        exact m.ext_from e0 (fun b hb e => by have e' : b = h.size := e; omega)) hL
    | some o =>
      obtain ⟨b1, b2, b3⟩ := hb
      have eo := aG.hp.rq o b1
      have d0 := eo.c0
      have d1 := eo.c1
      have hfo := a.fit o b1
      unfold bestV
      unfold Rn.en at hfo
      simp (disch := omega) [d0, d1]
      refine (⟨_, rfl⟩ : ∃ f, f = hset (hset (Array.push g' (.cells #[.int .i64 0, .int .i64 0] runT)) ⟨g'.size, 0, none⟩ (.int .i64 (o.r.at_ : Nat))) ⟨g'.size, 1, none⟩ (.int .i64 (o.r.len : Nat))).elim fun gy egy => ?_
      have ey : Ext g' gy := by rw [egy]; exact (by repeat' (first | (with_reducible exact Ext.refl _) | (with_reducible assumption) | (with_reducible refine push_ext ?_) | (with_reducible refine hset_ext ?_ ?_) | (with_reducible refine Ext.trans ?_ (by assumption)) | omega | (simp; done) | (simp; omega) | (refine Ext.size ?_) | (refine Nat.le_succ_of_le (Ext.size ?_))))
      have by_ : gy[g'.size]? = some (.cells #[.int .i64 (o.r.at_ : Nat), .int .i64 (o.r.len : Nat)] runT) := by
        rw [egy]
        refine (obj_set (obj_set (get_pushed rfl))).trans ?_
        simp
      rw [show hset (hset (Array.push g' (.cells #[.int .i64 0, .int .i64 0] 24)) ⟨g'.size, 0, none⟩ (.int .i64 (o.r.at_ : Nat))) ⟨g'.size, 1, none⟩ (.int .i64 (o.r.len : Nat)) = gy from egy.symm]
      clear egy
      have az := aG.ext ey
      refine drop_c az b1 b2 fun s5 h5 u5 => ?_
      have z0 := e0.size
      have hlq := get_some_lt q0
      have hby := get_some_lt by_
      have nft : ∀ b, h.size ≤ b → ¬ foot q s b := fun b hb hf => by have := a.lt hf; omega
      have y5 := (u5.mod.block _ hby (nft _ (by omega))).trans by_
      have q5 := (u5.mod.block _ (Nat.lt_of_lt_of_le hlq ey.size) (nft _ (Nat.le_refl _))).trans ((ey.block _ hlq).trans q0)
      have t0 := cellOf (i := 0) y5 rfl
      have t1 := cellOf (i := 1) y5 rfl
      have r0 := cellOf (i := 0) q5 rfl
      have r1 := cellOf (i := 1) q5 rfl
      have g0 : hfrozen h5 ⟨h.size, 0, none⟩ = false := frzOf q5
      have g1 : hfrozen h5 ⟨h.size, 1, none⟩ = false := frzOf q5
      simp (disch := omega) [t0, t1, r0, r1, g0, g1]
      have m6 := Mod.setIn (v := .int .i64 (o.r.len : Nat)) (a := ⟨h.size, 1, none⟩) (Mod.set h5 ⟨h.size, 0, none⟩ (.int .i64 (o.r.at_ : Nat))) (.inl rfl)
      have hK := H1 o.r s5 _ ⟨a.live.mem_iff.1 (List.mem_map_of_mem (mem_lives.2 ⟨b1, b2⟩)), fun y hy => by
        obtain ⟨z, hz, rfl⟩ := List.mem_map.1 (a.live.mem_iff.2 hy)
        rw [mem_lives] at hz
        exact b3 z hz.1 hz.2⟩ ⟨u5.st.mod m6 (fun b hb e => by
          have e' : b = h.size := e
          rcases u5.foot b hb with h9 | h9
          · exact nft b (by omega) h9
          · have := ey.size; omega), ((Mod.of_ext (e0.trans ey)).trans u5.mod (fun _ _ x => x)).trans m6 (fun b hb e => by have e' : b = h.size := e; omega), fun b hb => (u5.foot b hb).imp (fun x => x) (fun x => by have := ey.size; omega)⟩
      exact hK
end Go.Proofs.Ytgcllbelgakjgaa
set_option linter.unusedSimpArgs false
set_option linter.unusedVariables false
namespace Go.Vc
/-- A loop without variables; what comes next is hidden. -/
theorem loopX0 {α : Type} {body : (Heap → Prop) → Heap → Prop} {h : Heap} (g : α → Heap → Prop) (μ : α → Nat) (a0 : α) (hg : g a0 h)
    (hb : ∀ a h, g a h → ∀ X : Heap → Prop, (∀ a' h', g a' h' → μ a' < μ a → X h') → body X h) : LoopC 0 body [] h ⟨⟩ := by
  refine loopA0 g μ a0 hg fun a h hga => ?_
  exact hb a h hga _ (fun a' h' h1 h2 => ⟨a', h1, h2⟩)
end Go.Vc
namespace Go.Proofs.Ytgcllbelgakjgaa
open Go.Vc Go.Sort
variable {K : Value → Heap → Prop} {h : Heap}

theorem popped_mem {E E' : List Ent} {x : Ent} (hp : (E' ++ [x]).Perm E) (hn : (E.map (·.b)).Nodup) : (∀ y, y ∈ E' ↔ y ∈ E ∧ y ≠ x) ∧ (E'.map (·.b)).Nodup := by
  have h1 : ((E' ++ [x]).map (·.b)).Nodup := (hp.map _).nodup_iff.2 hn
  rw [List.map_append, List.map_cons, List.map_nil, List.nodup_append] at h1
  refine ⟨fun y => ⟨fun hy => ⟨hp.mem_iff.1 (by simp [hy]), fun e => ?_⟩, fun ⟨hy, hne⟩ => ?_⟩, h1.1⟩
  · subst e
    exact h1.2.2 _ (List.mem_map_of_mem hy) _ (by simp) rfl
  · rcases List.mem_append.1 (hp.mem_iff.2 hy) with h | h
    · exact h
    · simp at h; exact absurd h hne
theorem popped_live {E E' : List Ent} {x : Ent} (hp : (E' ++ [x]).Perm E) : (lives E' ++ (if 0 < x.r.len then [x] else [])).Perm (lives E) := by
  have := hp.filter (fun e : Ent => decide (0 < e.r.len))
  rw [List.filter_append] at this
  refine List.Perm.trans (List.Perm.of_eq ?_) this
  unfold lives
  congr 1
  by_cases hz : 0 < x.r.len <;> simp [hz]
theorem atE0 {E : List Ent} (hE : E ≠ []) : ∃ E2, E = atE E 0 :: E2 := by
  cases E with
  | nil => exact absurd rfl hE
  | cons e E2 => exact ⟨E2, rfl⟩
/-- A dead one off the top. -/
theorem popdead_c {q : Nat} {s : Lq} {L : List Rn} (a : LqAt h q s L) (hE : s.E ≠ []) (hd : (atE s.E 0).r.len = 0) (H : ∀ s' v h', LUpd h h' q s s' L → s'.E.length < s.E.length → K v h') :
    CallsH Try.prog 60 #[hpV q] h K ⟨⟩ := by
  refine rpop_c a.hp hE a.ord fun v' h' E' hp hmin ho h1 hx m1 f1 => ?_
  obtain ⟨hm, hn⟩ := popped_mem hp a.blks
  have hl := hp.length_eq
  have hlv := popped_live hp
  rw [if_neg (by omega), List.append_nil] at hlv
  have nF := a.mapne (.inl rfl)
  have nG := a.mapne (.inr rfl)
  obtain ⟨F, mF, tF⟩ := a.fm
  obtain ⟨G, mG, tG⟩ := a.tm
  have same : ∀ y : Ent, 0 < y.r.len → (y ∈ E' ↔ y ∈ s.E) := fun y hy => by
    rw [hm y]
    exact ⟨fun x => x.1, fun x => ⟨x, fun e => by subst e; omega⟩⟩
  simp at hl
  refine H ⟨v', E', s.mf, s.mt⟩ _ h' ⟨⟨h1, ⟨F, mF.mod m1 (fun e => e.elim nF.1 nF.2.1), tabs_iff tF same⟩, ⟨G, mG.mod m1 (fun e => e.elim nG.1 nG.2.1), tabs_iff tG same⟩, a.mne, hn, ho, ((hlv.map _).trans a.live), a.can, fun y hy => a.fit y ((hm y).1 hy).1, by have := a.few; dsimp only; omega⟩, ?_, ?_⟩ (by dsimp only; omega)
  · exact m1.mono (fun b _ e => e.elim .inl (fun e => .inr (.inr (.inr (.inl e)))))
  · rintro b (rfl | rfl | rfl | e | ⟨y, hy, rfl⟩)
    · exact .inl (.inl rfl)
    · exact .inl (.inr (.inl rfl))
    · exact .inl (.inr (.inr (.inl rfl)))
    · exact (f1 b e).imp (fun e => .inr (.inr (.inr (.inl e)))) (fun e => e)
    · exact .inl (.inr (.inr (.inr (.inr ⟨y, ((hm y).1 hy).1, rfl⟩))))
/-- The top is the first run, if it has bytes. -/
theorem LqAt.top {q : Nat} {s : Lq} {L : List Rn} (a : LqAt h q s L) (hE : s.E ≠ []) (hl : 0 < (atE s.E 0).r.len) : ∃ L0, L = (atE s.E 0).r :: L0 := by
  obtain ⟨E2, e2⟩ := atE0 hE
  have hmem : atE s.E 0 ∈ s.E := by rw [e2]; simp [atE]
  have hL : (atE s.E 0).r ∈ L := a.live.mem_iff.1 (List.mem_map_of_mem (mem_lives.2 ⟨hmem, hl⟩))
  have hmin := a.ord.min swo_ltE
  have hall : ∀ y ∈ L, (atE s.E 0).r.at_ ≤ y.at_ := fun y hy => by
    obtain ⟨e, he, rfl⟩ := List.mem_map.1 (a.live.mem_iff.2 hy)
    obtain ⟨i, hi, rfl⟩ := List.getElem_of_mem (mem_lives.1 he).1
    have := hmin i hi
    unfold okE ltE at this
    rw [atE_get hi] at this
    simpa using this
  have hc := a.can
  cases L with
  | nil => cases hL
  | cons x L0 =>
    have h1 := hall x (by simp)
    rcases List.mem_cons.1 hL with e | hL
    · exact ⟨L0, by rw [e]⟩
    · have := hc.2.1 _ hL
      unfold Rn.en at this; omega
end Go.Proofs.Ytgcllbelgakjgaa
set_option linter.unusedSimpArgs false
set_option linter.unusedVariables false
namespace Go.Proofs.Ytgcllbelgakjgaa
open Go.Vc Go.Sort
variable {K : Value → Heap → Prop} {h : Heap}

/-- What is written into the block of the answer. -/
theorem ans_ext {h' : Heap} {b : Nat} {x y : Value} (e : Ext h h') (hb : h.size ≤ b) : Ext h (hset (hset h' ⟨b, 0, none⟩ x) ⟨b, 1, none⟩ y) := by
  have m := Mod.setIn (v := y) (a := ⟨b, 1, none⟩) (Mod.set h' ⟨b, 0, none⟩ x) (.inl rfl)
  exact m.ext_from e (fun c hc e => by have e' : c = b := e; omega)
theorem ans_upd {h' : Heap} {q b : Nat} {s s' : Lq} {L' : List Rn} {x y : Value} (u : LUpd h h' q s s' L') (hb : h.size ≤ b) (hf : ¬ foot q s' b) : LUpd h (hset (hset h' ⟨b, 0, none⟩ x) ⟨b, 1, none⟩ y) q s s' L' := by
  have m := Mod.setIn (v := y) (a := ⟨b, 1, none⟩) (Mod.set h' ⟨b, 0, none⟩ x) (.inl rfl)
  exact ⟨u.st.mod m (fun c hc e => by have e' : c = b := e; subst e'; exact hf hc), u.mod.trans m (fun c hc e => by have e' : c = b := e; omega), u.foot⟩
set_option maxHeartbeats 4000000 in
theorem Next_c {q : Nat} {s : Lq} {L : List Rn} {most : Int} (a : LqAt h q s L) (hm : i64 most)
    (H0 : ∀ h', Ext h h' → most < 1 → K (.tuple #[rwA (0, 0), .int .i64 2]) h')
    (H1 : ∀ s' h', 1 ≤ most → L = [] → LUpd h h' q s s' [] → K (.tuple #[rwA (0, 0), .int .i64 7]) h')
    (H2 : ∀ x L0 s' h', 1 ≤ most → L = x :: L0 → LUpd h h' q s s' (lessR ⟨x.at_, min x.len most.toNat⟩ L) → K (.tuple #[rwA (rnP ⟨x.at_, min x.len most.toNat⟩), .int .i64 0]) h') :
    CallsH Try.prog 40 #[ptrV q, .int .i64 most] h K ⟨⟩ := by
  refine n40_calls ?_
  unfold n40
  simp (disch := omega)
  refine (⟨_, rfl⟩ : ∃ f, f = h.push (.cells #[.int .i64 0, .int .i64 0] runT)).elim fun g eg => ?_
  have e0 : Ext h g := by rw [eg]; exact (by repeat' (first | (with_reducible exact Ext.refl _) | (with_reducible assumption) | (with_reducible refine push_ext ?_) | (with_reducible refine hset_ext ?_ ?_) | (with_reducible refine Ext.trans ?_ (by assumption)) | omega | (simp; done) | (simp; omega) | (refine Ext.size ?_) | (refine Nat.le_succ_of_le (Ext.size ?_))))
  have q0 : g[h.size]? = some (.cells #[.int .i64 0, .int .i64 0] runT) := by rw [eg]; exact get_pushed rfl
  rw [show h.push (.cells #[.int .i64 0, .int .i64 0] 24) = g from eg.symm]
  clear eg
  have aG := a.ext e0
  refine noneN_c aG.hp.cells ?_
  have x0 := cellOf (i := 0) q0 rfl
  have x1 := cellOf (i := 1) q0 rfl
  have f0 : hfrozen g ⟨h.size, 0, none⟩ = false := frzOf q0
  have f1 : hfrozen g ⟨h.size, 1, none⟩ = false := frzOf q0
  obtain ⟨hm0, hm1⟩ := hm
  by_cases hms : most < 1
  · simp (disch := omega) [x0, x1, f0, f1]
    exact H0 _ (ans_ext e0 (Nat.le_refl _)) hms
  simp (disch := omega)
  have z0 := e0.size
  have hlq := get_some_lt q0
  have nft : ∀ b, h.size ≤ b → ¬ foot q s b := fun b hb hf => by have := a.lt hf; omega
  refine loopX0 (α := Lq) (fun s' g' => LUpd g g' q s s' L) (fun s' => s'.E.length) s (LUpd.refl aG) ?_
  intro s1 g1 u1 X hX
  have a1 := u1.st
  have U1 : LUpd h g1 q s s1 L := (LUpd.of_ext a e0).trans u1
  have q1 := (u1.mod.block _ hlq (nft _ (Nat.le_refl _))).trans q0
  have nf1 : ∀ b, h.size ≤ b → b < g.size → ¬ foot q s1 b := fun b h1 h2 hf => (u1.foot b hf).elim (nft b h1) (fun e => by omega)
  have y0 := cellOf (i := 0) q1 rfl
  have y1 := cellOf (i := 1) q1 rfl
  have g0 : hfrozen g1 ⟨h.size, 0, none⟩ = false := frzOf q1
  have g1' : hfrozen g1 ⟨h.size, 1, none⟩ = false := frzOf q1
  unfold ptrV
  simp (disch := omega)
  refine len_m a1.hp ?_
  have hfew := a1.few
  by_cases hE : s1.E = []
  · have hE0 : s1.E.length = 0 := by rw [hE]; rfl
    rw [hE0]
    simp (disch := omega) [y0, y1, g0, g1']
    have hL : L = [] := by
      have := a1.live.length_eq
      rw [hE] at this
      exact List.length_eq_zero_iff.1 (by simpa [lives] using this.symm)
    subst hL
    exact H1 s1 _ (by omega) rfl (ans_upd U1 (Nat.le_refl _) (nf1 _ (Nat.le_refl _) (by omega)))
  · have hlen : 0 < s1.E.length := List.length_pos_iff.2 hE
    obtain ⟨b, c, hv, hc, ci, -⟩ := a1.hp.cell hlen
    have c0 := cellOf (i := 0) a1.hp.cells rfl
    rw [hv] at c0
    obtain ⟨E2, hE2⟩ := atE0 hE
    have hget : s1.E[0] = atE s1.E 0 := (atE_get hlen).symm
    rw [hget] at ci
    have hmem : atE s1.E 0 ∈ s1.E := by rw [← hget]; exact List.getElem_mem hlen
    have hdead := fun hd => popdead_c (K := fun _ => X) a1 hE hd fun s2 v h2 u2 hl2 => hX s2 h2 (u1.trans u2) hl2
    have htop := a1.top hE
    have ee := a1.hp.rq _ hmem
    have hfe := a1.fit _ hmem
    have hord := a1.ord
    generalize hx : atE s1.E 0 = e at *
    have k0 := ee.c0
    have k1 := ee.c1
    rw [elt_zero] at ci
    by_cases hz : e.r.len = 0
    · simp (disch := omega) [c0, ci, k0, k1, hz, Hp_mkIface (P := Try.prog) (t := 95) (by kernel_rfl)]
      exact hdead hz
    obtain ⟨L0, hL⟩ := htop (by omega)
    unfold Rn.en at hfe
    have he1 : e.b ≠ g1.size := by have := get_some_lt ee; omega
    have hq1 : q ≠ g1.size := by have := get_some_lt a1.hp.cells; omega
    have c2 := cellOf (i := 2) a1.hp.cells rfl
    obtain ⟨n, hn⟩ : ∃ n, n = min e.r.len most.toNat := ⟨_, rfl⟩
    have hmn : (if most < (e.r.len : Int) then most else (e.r.len : Int)) = (n : Int) := by split <;> omega
    simp (disch := omega) [c0, ci, k0, k1, hz, Hp_min2, he1, hq1, c2]
    rw [hmn]
    refine (⟨_, rfl⟩ : ∃ f, f = hset (hset (Array.push g1 (.cells #[.int .i64 0, .int .i64 0] runT)) ⟨g1.size, 0, none⟩ (.int .i64 (e.r.at_ : Nat))) ⟨g1.size, 1, none⟩ (.int .i64 (n : Nat))).elim fun gz egz => ?_
    have ez : Ext g1 gz := by rw [egz]; exact (by repeat' (first | (with_reducible exact Ext.refl _) | (with_reducible assumption) | (with_reducible refine push_ext ?_) | (with_reducible refine hset_ext ?_ ?_) | (with_reducible refine Ext.trans ?_ (by assumption)) | omega | (simp; done) | (simp; omega) | (refine Ext.size ?_) | (refine Nat.le_succ_of_le (Ext.size ?_))))
    have bz : gz[g1.size]? = some (.cells #[.int .i64 (e.r.at_ : Nat), .int .i64 (n : Nat)] runT) := by
      rw [egz]
      refine (obj_set (obj_set (get_pushed rfl))).trans ?_
      simp
    rw [show hset (hset (Array.push g1 (.cells #[.int .i64 0, .int .i64 0] 24)) ⟨g1.size, 0, none⟩ (.int .i64 (e.r.at_ : Nat))) ⟨g1.size, 1, none⟩ (.int .i64 (n : Nat)) = gz from egz.symm]
    clear egz
    have az := a1.ext ez
    obtain ⟨F, mF, tF⟩ := az.fm
    obtain ⟨G, mG, tG⟩ := az.tm
    have nF := az.mapne (.inl rfl)
    have nG := az.mapne (.inr rfl)
    refine Hp_delete laKey mF fun h2 F2 m2 => ?_
    have zz := ez.size
    have hob : ¬ foot q s1 g1.size := fun hf => by have := a1.lt hf; omega
    have hab : ¬ foot q s1 h.size := nf1 _ (Nat.le_refl _) (by omega)
    have az2 := az.hp.mod m2 (Ne.symm nF.1) (fun b hb e9 => nF.2.1 (by rw [← e9]; exact hb)) nF.2.2
    have b2 := (m2.block _ (get_some_lt bz) (fun e9 => hob (.inr (.inl e9)))).trans bz
    have q2 := (m2.block _ (by have := get_some_lt q1; omega) (fun e9 => hab (.inr (.inl e9)))).trans ((ez.block _ (get_some_lt q1)).trans q1)
    have G2 := mG.mod m2 (Ne.symm a1.mne)
    have e2 := az2.rq e hmem
    have w0 := e2.c0
    have w1 := e2.c1
    have o0 := cellOf (i := 0) b2 rfl
    have o1 := cellOf (i := 1) b2 rfl
    have fte : foot q s1 e.b := .inr (.inr (.inr (.inr ⟨e, hmem, rfl⟩)))
    by_cases hfull : n = e.r.len
    · have c3 := cellOf (i := 3) az2.cells rfl
      simp (disch := omega) [o0, o1, w0, w1, c3]
      rw [show ((e.r.at_ : Int) + (e.r.len : Int)) = ((e.r.en : Nat) : Int) by unfold Rn.en; omega]
      refine Hp_delete laKey G2 fun h3 G3 m3 => ?_
      simp (disch := omega) [Hp_mkIface (P := Try.prog) (t := 95) (by kernel_rfl)]
      have az3 := az2.mod m3 (Ne.symm nG.1) (fun b hb e9 => nG.2.1 (by rw [← e9]; exact hb)) nG.2.2
      refine rpop_c az3 hE hord fun v4 h4 E' hp hmin ho4 hp4 hx4 m4 f4 => ?_
      rw [hx] at hp
      obtain ⟨hm4, hn4⟩ := popped_mem hp a1.blks
      have hlv := popped_live hp
      rw [if_pos (by omega)] at hlv
      have b4 := (m4.block _ (get_some_lt ((m3.block _ (get_some_lt b2) (fun e9 => hob (.inr (.inr (.inl e9))))).trans b2)) (fun e9 => hob (e9.elim .inl (fun e9 => .inr (.inr (.inr (.inl e9))))))).trans ((m3.block _ (get_some_lt b2) (fun e9 => hob (.inr (.inr (.inl e9))))).trans b2)
      have q4 := (m4.block _ (get_some_lt ((m3.block _ (get_some_lt q2) (fun e9 => hab (.inr (.inr (.inl e9))))).trans q2)) (fun e9 => hab (e9.elim .inl (fun e9 => .inr (.inr (.inr (.inl e9))))))).trans ((m3.block _ (get_some_lt q2) (fun e9 => hab (.inr (.inr (.inl e9))))).trans q2)
      have p0 := cellOf (i := 0) b4 rfl
      have p1 := cellOf (i := 1) b4 rfl
      have r0 := cellOf (i := 0) q4 rfl
      have r1 := cellOf (i := 1) q4 rfl
      have s0 : hfrozen h4 ⟨h.size, 0, none⟩ = false := frzOf q4
      have s1' : hfrozen h4 ⟨h.size, 1, none⟩ = false := frzOf q4
      simp (disch := omega) [p0, p1, r0, r1, s0, s1']
      have hcL : Vc.Can (e.r :: L0) := by rw [← hL]; exact a1.can
      have hless : lessR ⟨e.r.at_, n⟩ L = L0 := by rw [hL, less_first hcL (by omega) (by omega), if_pos hfull]
      have sm : ∀ y : Ent, 0 < y.r.len → (y ∈ E' ↔ y ∈ s1.E ∧ y ≠ e) := fun y _ => hm4 y
      have tF' := tabs_del (E' := E') tF mF.nodup hmem (by omega) (fun y hy hl he => a1.injA y hy e hmem hl (by omega) he) sm
      have tG' := tabs_del (E' := E') tG mG.nodup hmem (by omega) (fun y hy hl he => a1.injE y hy e hmem hl (by omega) he) sm
      have U4 : LUpd g1 h4 q s1 ⟨v4, E', s1.mf, s1.mt⟩ L0 := by
        refine ⟨⟨hp4, ⟨_, (F2.mod m3 a1.mne).mod m4 (fun e9 => e9.elim nF.1 nF.2.1), tF'⟩, ⟨_, G3.mod m4 (fun e9 => e9.elim nG.1 nG.2.1), tG'⟩, a1.mne, hn4, ho4, ?_, hcL.2.2, fun y hy => a1.fit y ((hm4 y).1 hy).1, ?_⟩, ?_, ?_⟩
        · have h9 : (e.r :: (lives E').map (·.r)).Perm (e.r :: L0) := by
            have h8 := (hlv.map (·.r)).trans (by rw [← hL]; exact a1.live : ((lives s1.E).map (·.r)).Perm (e.r :: L0))
            rw [List.map_append] at h8
            exact (List.perm_append_singleton e.r ((lives E').map (·.r))).symm.trans h8
          exact h9.cons_inv
        · have := hp.length_eq; simp at this; dsimp only; omega
        · refine (((Mod.of_ext ez).trans m2 fun b _ e9 => ?_).trans m3 fun b _ e9 => ?_).trans m4 fun b _ e9 => ?_
          · exact .inr (.inl e9)
          · exact .inr (.inr (.inl e9))
          · exact e9.elim .inl (fun e9 => .inr (.inr (.inr (.inl e9))))
        · rintro b (rfl | rfl | rfl | e9 | ⟨y, hy, rfl⟩)
          · exact .inl (.inl rfl)
          · exact .inl (.inr (.inl rfl))
          · exact .inl (.inr (.inr (.inl rfl)))
          · rcases f4 b e9 with h9 | h9
            · exact .inl (.inr (.inr (.inr (.inl h9))))
            · have := m3.size; have := m2.size; exact .inr (by omega)
          · exact .inl (.inr (.inr (.inr (.inr ⟨y, ((hm4 y).1 hy).1, rfl⟩))))
      have hU := ans_upd (x := .int .i64 (e.r.at_ : Nat)) (y := .int .i64 (n : Nat)) (U1.trans U4) (Nat.le_refl _) (fun hf => (U4.foot _ hf).elim hab (fun h9 => by have := get_some_lt q1; omega))
      rw [← hless, hn] at hU
      have hK := H2 e.r L0 _ _ (by omega) hL hU
      rw [← hn] at hK
      exact hK
    · have hz2 := get_some_lt e2
      have w2 : hfrozen h2 ⟨e.b, 0, none⟩ = false := frzOf e2
      have w3 : hfrozen h2 ⟨e.b, 1, none⟩ = false := frzOf e2
      have c2' := cellOf (i := 2) az2.cells rfl
      simp (disch := omega) [o0, o1, w0, w1, w2, w3, c2']
      refine (⟨_, rfl⟩ : ∃ f, f = hset (hset h2 ⟨e.b, 0, none⟩ (.int .i64 ((e.r.at_ : Int) + (n : Int)))) ⟨e.b, 1, none⟩ (.int .i64 ((e.r.len : Int) - (n : Int)))).elim fun h3 eh3 => ?_
      have m3 : Mod (· = e.b) h2 h3 := by rw [eh3]; exact Mod.setIn (Mod.set h2 ⟨e.b, 0, none⟩ _) (.inl rfl)
      have hc1 : (((e.r.at_ + n : Nat)) : Int) = (e.r.at_ : Int) + (n : Int) := by omega
      have hc2 : (((e.r.len - n : Nat)) : Int) = (e.r.len : Int) - (n : Int) := by omega
      have b3 : EntAt h3 ⟨e.b, ⟨e.r.at_ + n, e.r.len - n⟩⟩ := by
        rw [eh3]
        refine (obj_set (obj_set e2)).trans ?_
        rw [← hc1, ← hc2]
        simp
      rw [← eh3]
      clear eh3
      have hn0 := a1.blks
      have hlive := a1.live
      have inA := a1.injA
      have inE := a1.injE
      rw [hE2] at az2 hn0 tF tG hlive hord inA inE
      have H3 := az2.change (E1 := []) (e' := ⟨e.b, ⟨e.r.at_ + n, e.r.len - n⟩⟩) hn0 rfl m3 b3
      have k0' := b3.c0
      dsimp only at k0'
      rw [hc1] at k0'
      have hmb : ∀ b, b = s1.mf ∨ b = s1.mt → b ≠ e.b := fun b hb e9 => by
        rcases hb with rfl | rfl
        · exact nF.2.2 e hmem e9.symm
        · exact nG.2.2 e hmem e9.symm
      have F3 := F2.mod m3 (hmb _ (.inl rfl))
      rw [← hc1]
      refine Hp_mapUpdate laKey F3 fun h4 F4 m4 => ?_
      have hbE : ∀ y ∈ (⟨e.b, ⟨e.r.at_ + n, e.r.len - n⟩⟩ : Ent) :: E2, y.b ≠ s1.mf := fun y hy => by
        rcases List.mem_cons.1 hy with rfl | hy
        · exact nF.2.2 e hmem
        · exact nF.2.2 y (by rw [hE2]; simp [hy])
      have H4 : HpAt h4 q (.map (some s1.mf)) (.map (some s1.mt)) s1.hl ((⟨e.b, ⟨e.r.at_ + n, e.r.len - n⟩⟩ : Ent) :: E2) := H3.mod m4 (Ne.symm nF.1) (fun b hb e9 => nF.2.1 (by rw [← e9]; exact hb)) hbE
      have hd : DownE ltE ((⟨e.b, ⟨e.r.at_ + n, e.r.len - n⟩⟩ : Ent) :: E2) ((⟨e.b, ⟨e.r.at_ + n, e.r.len - n⟩⟩ : Ent) :: E2).length 0 0 := by
        refine ⟨fun k k0 hk _ hp0 => ?_, fun h9 => absurd h9 (by omega)⟩
        have h9 := hord k k0 (by simpa using hk) (Nat.zero_le _)
        have g9 : ∀ (y : Ent) (j : Nat), 0 < j → atE (y :: E2) j = atE (e :: E2) j := fun y j hj => by
          obtain ⟨j', rfl⟩ : ∃ j', j = j' + 1 := ⟨j - 1, by omega⟩
          unfold atE; rfl
        unfold okE at *
        rw [g9 ⟨e.b, ⟨e.r.at_ + n, e.r.len - n⟩⟩ k k0, g9 ⟨e.b, ⟨e.r.at_ + n, e.r.len - n⟩⟩ ((k - 1) / 2) (by omega)]
        exact h9
      simp (disch := omega) [Hp_mkIface (P := Try.prog) (t := 95) (by kernel_rfl)]
      refine rfix_c H4 (by simp) hd fun v5 h5 E' hp5 ho5 hp5' m5 f5 => ?_
      have zz2 := m2.size
      have zz3 := m3.size
      have zz4 := m4.size
      have nob : g1.size ≠ e.b ∧ g1.size ≠ s1.mf ∧ ¬ hpW q s1.hl g1.size := ⟨fun e9 => hob (e9 ▸ fte), fun e9 => hob (.inr (.inl e9)), fun e9 => hob (e9.elim .inl (fun e9 => .inr (.inr (.inr (.inl e9)))))⟩
      have nab : h.size ≠ e.b ∧ h.size ≠ s1.mf ∧ ¬ hpW q s1.hl h.size := ⟨fun e9 => hab (e9 ▸ fte), fun e9 => hab (.inr (.inl e9)), fun e9 => hab (e9.elim .inl (fun e9 => .inr (.inr (.inr (.inl e9)))))⟩
      have lb2 := get_some_lt b2
      have lq2 := get_some_lt q2
      have b5 := (m5.block _ (by omega) nob.2.2).trans ((m4.block _ (by omega) nob.2.1).trans ((m3.block _ lb2 nob.1).trans b2))
      have q5 := (m5.block _ (by omega) nab.2.2).trans ((m4.block _ (by omega) nab.2.1).trans ((m3.block _ lq2 nab.1).trans q2))
      have p0 := cellOf (i := 0) b5 rfl
      have p1 := cellOf (i := 1) b5 rfl
      have r0 := cellOf (i := 0) q5 rfl
      have r1 := cellOf (i := 1) q5 rfl
      have s0 : hfrozen h5 ⟨h.size, 0, none⟩ = false := frzOf q5
      have s1' : hfrozen h5 ⟨h.size, 1, none⟩ = false := frzOf q5
      simp (disch := omega) [p0, p1, r0, r1, s0, s1']
      have hcL : Vc.Can (e.r :: L0) := by rw [← hL]; exact a1.can
      have hless : lessR ⟨e.r.at_, n⟩ L = ⟨e.r.at_ + n, e.r.len - n⟩ :: L0 := by rw [hL, less_first hcL (by omega) (by omega), if_neg hfull]
      have hsm : ∀ y : Ent, y ∈ E' ↔ y ∈ [] ++ (⟨e.b, ⟨e.r.at_ + n, e.r.len - n⟩⟩ : Ent) :: E2 := fun y => hp5.mem_iff
      have hE2L : ∀ y ∈ E2, 0 < y.r.len → e.r.en < y.r.at_ := fun y hy hl => by
        have h8 : y.r ∈ e.r :: L0 := by rw [← hL]; exact hlive.mem_iff.1 (List.mem_map_of_mem (mem_lives.2 ⟨by simp [hy], hl⟩))
        rcases List.mem_cons.1 h8 with h9 | h9
        · have h10 := inE y (by simp [hy]) e (by simp) hl (by omega) (by rw [h9])
          subst h10
          rw [List.map_cons, List.nodup_cons] at hn0
          exact absurd (List.mem_map_of_mem hy) hn0.1
        · exact hcL.2.1 _ h9
      have tF' := tabs_set (E1 := []) (e' := ⟨e.b, ⟨e.r.at_ + n, e.r.len - n⟩⟩) tF mF.nodup hn0 (by omega) (by dsimp only; omega) rfl (fun y hy hl he => inA y hy e (by simp) hl (by omega) he) (fun y hy hl he => by
        have := hE2L y hy hl
        unfold Rn.en at this
        dsimp only at he
        omega)
      have tG' := tabs_same (E1 := []) (e' := ⟨e.b, ⟨e.r.at_ + n, e.r.len - n⟩⟩) tG (by omega) (by dsimp only; omega) rfl (by unfold Rn.en; dsimp only; omega)
      have U5 : LUpd g1 h5 q s1 ⟨v5, E', s1.mf, s1.mt⟩ (⟨e.r.at_ + n, e.r.len - n⟩ :: L0) := by
        refine ⟨⟨hp5', ⟨_, F4.mod m5 (fun e9 => e9.elim nF.1 nF.2.1), tabs_iff tF' (fun y _ => hsm y)⟩, ⟨_, ((G2.mod m3 (hmb _ (.inr rfl))).mod m4 (Ne.symm a1.mne)).mod m5 (fun e9 => e9.elim nG.1 nG.2.1), tabs_iff tG' (fun y _ => hsm y)⟩, a1.mne, ?_, ho5, ?_, ?_, ?_, ?_⟩, ?_, ?_⟩
        · rw [(hp5.map (·.b)).nodup_iff]
          simpa using hn0
        · have h8 : ((lives ([] ++ e :: E2)).map (·.r)).Perm ([] ++ e.r :: L0) := by rw [← hL]; exact hlive
          have h9 := perm_set (E1 := []) (e' := ⟨e.b, ⟨e.r.at_ + n, e.r.len - n⟩⟩) (A := []) (by dsimp only; omega) (perm_rest (A := []) (by omega) h8)
          exact ((hp5.filter _).map _).trans h9
        · rw [← hless]; exact lessR_can (by dsimp only; omega) a.can
        · intro y hy
          rcases List.mem_cons.1 (hp5.mem_iff.1 hy) with rfl | hy
          · unfold Rn.en; dsimp only; omega
          · exact a1.fit y (by rw [hE2]; simp [hy])
        · have h8 := hp5.length_eq
          have h9 := a1.few
          rw [hE2] at h9
          simp at h8 h9; dsimp only; omega
        · refine ((((Mod.of_ext ez).trans m2 fun b _ e9 => ?_).trans m3 fun b _ e9 => ?_).trans m4 fun b _ e9 => ?_).trans m5 fun b _ e9 => ?_
          · exact .inr (.inl e9)
          · exact e9 ▸ fte
          · exact .inr (.inl e9)
          · exact e9.elim .inl (fun e9 => .inr (.inr (.inr (.inl e9))))
        · rintro b (rfl | rfl | rfl | e9 | ⟨y, hy, rfl⟩)
          · exact .inl (.inl rfl)
          · exact .inl (.inr (.inl rfl))
          · exact .inl (.inr (.inr (.inl rfl)))
          · rcases f5 b e9 with h9 | h9
            · exact .inl (.inr (.inr (.inr (.inl h9))))
            · exact .inr (by omega)
          · rcases List.mem_cons.1 (hp5.mem_iff.1 hy) with rfl | hy
            · exact .inl fte
            · exact .inl (.inr (.inr (.inr (.inr ⟨y, by rw [hE2]; simp [hy], rfl⟩))))
      have hU := ans_upd (x := .int .i64 (e.r.at_ : Nat)) (y := .int .i64 (n : Nat)) (U1.trans U5) (Nat.le_refl _) (fun hf => (U5.foot _ hf).elim hab (fun h9 => by have := get_some_lt q1; omega))
      rw [← hless, hn] at hU
      have hK := H2 e.r L0 _ _ (by omega) hL hU
      rw [← hn] at hK
      exact hK
end Go.Proofs.Ytgcllbelgakjgaa
