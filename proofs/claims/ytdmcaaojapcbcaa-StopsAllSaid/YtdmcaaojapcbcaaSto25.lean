/- Store: a copy. -/
import Derived.Test.YtdmcaaojapcbcaaStoG
set_option linter.unusedSimpArgs false
set_option linter.unusedVariables false
namespace Go.Proofs.Ytdmcaaojapcbcaa
open Go.Vc
variable {K : Value → Heap → Prop} {h : Heap}

/-- A file more, made anew, with pieces whose bytes lie elsewhere. -/
theorem StAt.addP {p n : Nat} {s : St} {h2 : Heap} {x : Fh} (a : StAt h p s) (hn : ∀ b, s.foot p b → b < n) (hn2 : ∀ y ∈ s.F, ∀ q ∈ y.qs, ∀ b, blkV q.2 = some b → b < n) (hx : FlAt h x) (hq : ∀ q ∈ x.qs, ∀ b, blkV q.2 = some b → ¬ s.foot p b) (hqn : x.qs.length ≤ s.steps * 1000000) (ho : ∀ b, x.own b → n ≤ b) (hl : okName x.name) (hg : ∀ y ∈ s.F, y.name ≠ x.name) (hf : s.F.length < 256)
    (hm : MapK str h2 s.m (upd x.name (ptrV x.b) s.keys)) (m : Mod (· = s.m) h h2) : StAt h2 p { s with F := s.F ++ [x] } ∧ ∀ b, St.foot { s with F := s.F ++ [x] } p b → s.foot p b ∨ x.own b := by
  have hml := hn s.m (.inr (.inl rfl))
  have hmn : p ≠ s.m := fun e => by
    obtain ⟨es, cl, hm⟩ := mapCell a.map
    rw [← e, a.cells] at hm; cases hm
  have hk : upd x.name (ptrV x.b) s.keys = St.keys { s with F := s.F ++ [x] } := by
    rw [upd_new]
    · unfold St.keys; simp
    · intro q hq
      unfold St.keys at hq
      obtain ⟨y, hy, rfl⟩ := List.mem_map.1 hq
      exact hg y hy
  have hom : ∀ x ∈ s.F, ∀ b, x.own b → b ≠ s.m := fun x hx b hb e => by
    obtain ⟨es, cl, hm⟩ := mapCell a.map
    exact Fh.neM (a.fl x hx) hb hm e
  have hqm : ∀ x ∈ s.F, ∀ q ∈ x.qs, ∀ b, blkV q.2 = some b → b ≠ s.m := fun x hx q hq b hb e => a.psep x hx q hq b hb (.inr (.inl e))
  have hfm : ∀ b, blkG s.fv = some b → b ≠ s.m := fun b hb => by
    obtain ⟨es, cl, hm⟩ := mapCell a.map
    exact a.fat.neM hb hm
  have foot : ∀ b, St.foot { s with F := s.F ++ [x] } p b → s.foot p b ∨ x.own b := by
    rintro b (e | e | e | ⟨y, hy, e⟩)
    · exact .inl (.inl e)
    · exact .inl (.inr (.inl e))
    · exact .inl (.inr (.inr (.inl e)))
    · rcases List.mem_append.1 hy with hy | hy
      · exact .inl (.inr (.inr (.inr ⟨y, hy, e⟩)))
      · simp at hy; subst hy
        exact .inr e
  have hnew : FlAt h2 x := hx.mod m (fun b hb e => by have := ho b hb; omega) (fun q hq' b hb e => hq q hq' b hb (.inr (.inl e)))
  refine ⟨⟨(m.block p (get_some_lt a.cells) hmn).trans a.cells, hk ▸ hm, fun y hy => ?_, ?_, fun y hy q hq' b hb e => ?_, a.fat.mod m hfm, fun y hy => ?_, ?_, a.stp, a.fatk, a.fok, fun y hy => ?_⟩, foot⟩
  · rcases List.mem_append.1 hy with hy | hy
    · exact (a.fl y hy).mod m (hom y hy) (hqm y hy)
    · simp at hy; subst hy; exact hnew
  · rw [List.pairwise_append]
    refine ⟨a.sep, List.pairwise_singleton _ _, fun y hy z hz b hb hc => ?_⟩
    simp at hz; subst hz
    have := ho b hc
    have := hn b (.inr (.inr (.inr ⟨y, hy, hb⟩)))
    omega
  · rcases List.mem_append.1 hy with hy | hy
    · exact (foot b e).elim (a.psep y hy q hq' b hb) (fun e => by have := hn2 y hy q hq' b hb; have := ho b e; omega)
    · simp at hy; subst hy
      exact (foot b e).elim (hq q hq' b hb) (hx.ap q hq' b hb)
  · rcases List.mem_append.1 hy with hy | hy
    · exact a.names y hy
    · simp at hy; subst hy; exact hl
  · show (s.F ++ [_]).length ≤ 256
    simp; omega
  · rcases List.mem_append.1 hy with hy | hy
    · exact a.pfew y hy
    · simp at hy; subst hy; exact hqn

/-- A new store without files. -/
structure NewSt (h g : Heap) (s : St) (o : Value) (bO po m : Nat) (fv : Value) : Prop where
  o : o = ptrV bO
  ext : Ext h g
  cell : g[bO]? = some (.cells #[ptrV po] 26)
  lo : h.size ≤ bO
  st : StAt g po ⟨[], s.fates, s.steps, m, fv⟩
  foot : ∀ b, St.foot ⟨[], s.fates, s.steps, m, fv⟩ po b → h.size ≤ b ∧ b ≠ bO
theorem NewSt.mk' {p : Nat} {s : St} {g : Heap} {bO po m : Nat} {fv : Value} (a : StAt h p s) (eg : Ext h g) (cO : g[bO]? = some (.cells #[ptrV po] 26)) (cP : g[po]? = some (.cells #[.map (some m), fv, .int .i64 s.steps] sT)) (hm : MapK str g m ([] : List (List UInt8 × Value)))
    (of : OwnG aT 2 g fv (s.fates.flatMap faV)) (l1 : h.size ≤ bO) (l2 : h.size ≤ po) (l3 : h.size ≤ m) (l4 : ∀ b, blkG fv = some b → h.size ≤ b) : ∃ bO' po m fv, NewSt h g s (ptrV bO) bO' po m fv :=
  ⟨bO, po, m, fv, rfl, eg, cO, l1, ⟨cP, hm, fun x hx => (by cases hx), .nil, fun x hx => (by cases hx), of, fun x hx => (by cases hx), Nat.zero_le _, a.stp, a.fatk, a.fok, fun x hx => (by cases hx)⟩, by
    obtain ⟨es, cl, hmc⟩ := mapCell hm
    rintro b (e | e | e | ⟨x, hx, -⟩)
    · have e' : b = po := e
      exact ⟨by omega, fun e2 => by rw [← e2, e', cP] at cO; cases cO⟩
    · have e' : b = m := e
      exact ⟨by omega, fun e2 => by rw [← e2, e', hmc] at cO; cases cO⟩
    · exact ⟨l4 b e, of.ne e cO (by decide)⟩
    · cases hx⟩

theorem StAt.cellsOr {p : Nat} {s : St} (a : StAt h p s) {b : Nat} (hb : s.foot p b) : (∃ arr t, h[b]? = some (.cells arr t)) ∨ ∃ es cl, h[b]? = some (.map es cl) := by
  rcases hb with rfl | rfl | hb | ⟨x, hx, hb⟩
  · exact .inl ⟨_, _, a.cells⟩
  · obtain ⟨es, cl, hm⟩ := mapCell a.map
    exact .inr ⟨_, _, hm⟩
  · obtain ⟨arr, ha⟩ := a.fat.tag hb
    exact .inl ⟨_, _, ha⟩
  · obtain ⟨arr, t, ha, -⟩ := Fh.tag (a.fl x hx) hb
    exact .inl ⟨_, _, ha⟩
theorem StAt.neL {p : Nat} {s : St} (a : StAt h p s) {b c : Nat} (hb : s.foot p b) {o : Obj} (ho : isLoop o = true) (hc : h[c]? = some o) : b ≠ c := by
  rintro rfl
  rcases a.cellsOr hb with ⟨arr, t, ha⟩ | ⟨es, cl, ha⟩
  · rw [ha] at hc; cases hc; cases ho
  · rw [ha] at hc; cases hc; cases ho
/-- A copy in the making. -/
structure CT (h g : Heap) (po bO : Nat) (s t : St) : Prop where
  ext : Ext h g
  cO : g[bO]? = some (.cells #[ptrV po] 26)
  st : StAt g po t
  foot : ∀ b, t.foot po b → h.size ≤ b ∧ b ≠ bO
  qs : ∀ x ∈ t.F, ∀ q ∈ x.qs, ∀ b, blkV q.2 = some b → b < h.size
  fat : t.fates = s.fates
  stp : t.steps = s.steps
  qq : ∀ x ∈ t.F, ∀ q ∈ x.qs, ∃ y ∈ s.F, q ∈ y.qs
theorem CT.mod {S : Nat → Prop} {g g' : Heap} {po bO : Nat} {s t : St} (a : CT h g po bO s t) (m : Mod S g g') (h1 : ∀ b, S b → h.size ≤ b) (h2 : ¬ S bO) (h3 : ∀ b, S b → ¬ t.foot po b) : CT h g' po bO s t :=
  ⟨m.ext_from a.ext (fun b hb e => by have := h1 b e; omega), (m.block _ (get_some_lt a.cO) h2).trans a.cO, a.st.mod m (fun b hb e => h3 b e hb) (fun x hx q hq b hb e => by have := a.qs x hx q hq b hb; have := h1 b e; omega), a.foot, a.qs, a.fat, a.stp, a.qq⟩

theorem CT.of_ext {g g' : Heap} {po bO : Nat} {s t : St} (a : CT h g po bO s t) (e : Ext g g') : CT h g' po bO s t := a.mod (S := fun _ => False) (.of_ext e) (fun _ e => e.elim) id (fun _ e => e.elim)
set_option maxHeartbeats 8000000 in
theorem Copy_c2 {p : Nat} {s : St} (a : StAt h p s)
    (H : ∀ h' p' s', Ext h h' → StAt h' p' s' → (s'.F.map Fh.f).Perm (s.F.map Fh.f) → s'.fates = s.fates → s'.steps = s.steps → h.size ≤ p' → (∀ b, s'.foot p' b → h.size ≤ b) → (∀ x ∈ s'.F, ∀ q ∈ x.qs, ∃ y ∈ s.F, q ∈ y.qs) → K (ptrV p') h') :
    CallsH Try.prog 69 #[ptrV p] h K ⟨⟩ := by
  refine n69_calls ?_
  unfold n69
  refine none_c a.cells ?_
  simp (disch := omega)
  refine JoinN_in1 (fun o g => ∃ bO po m fv, NewSt h g s o bO po m fv) (fun kk hkk => ?_) (fun o g hg => ?_)
  · have f1 := cellOf (i := 1) a.cells rfl
    have f2 := cellOf (i := 2) a.cells rfl
    have hpl := get_some_lt a.cells
    obtain ⟨fa, fn, fc, hfv, hfl, hfc, -⟩ := a.fat.form
    have hfl' : fn = s.fates.length := by rw [faV_len] at hfl; omega
    have hfk := a.fatk
    have hof := a.fat
    rw [hfv] at f1 hof
    have hsrc := hof.src
    unfold ptrV
    simp (disch := omega) [f1, f2]
    have z0 : h.size + 1 = (h.push (.map #[] 0)).size := by simp
    have last : ∀ {g : Heap} {bO po m : Nat} {fv : Value}, Ext h g → g[bO]? = some (.cells #[ptrV po] 26) → g[po]? = some (.cells #[.map (some m), fv, .int .i64 s.steps] sT) → MapK str g m ([] : List (List UInt8 × Value)) →
      OwnG aT 2 g fv (s.fates.flatMap faV) → h.size ≤ bO → h.size ≤ po → h.size ≤ m → (∀ b, blkG fv = some b → h.size ≤ b) → kk (ptrV bO) g := fun e1 e2 e3 e4 e5 e6 e7 e8 e9 => hkk _ _ (NewSt.mk' a e1 e2 e3 e4 e5 e6 e7 e8 e9)
    clear hkk
    have F1 : ∀ g, Ext h g → hcell g ⟨p, 1, none⟩ = some (.slice fa fn fc) := fun g e => hfv ▸ cellOf (i := 1) (a.ext e).cells rfl
    have F2 : ∀ g, Ext h g → hcell g ⟨p, 2, none⟩ = some (.int .i64 s.steps) := fun g e => cellOf (i := 2) (a.ext e).cells rfl
    refine ⟨?_, ?_, ?_⟩
    · rw [Hp_makeMap]
      simp (disch := omega) [f1, f2]
      have mk := MapK.new (kV := str) (b := h.size) (h := h) rfl
      have e0 : Ext h (h.push (.map #[] 0)) := (by repeat' (first | (with_reducible exact Ext.refl _) | (with_reducible assumption) | (with_reducible refine push_ext ?_) | (with_reducible refine hset_ext ?_ ?_) | (with_reducible refine Ext.trans ?_ (by assumption)) | omega | (simp; done) | (simp; omega) | (refine Ext.size ?_) | (refine Nat.le_succ_of_le (Ext.size ?_))))
      refine ⟨?_, ?_⟩
      · skip
        refine fclone_c (hsrc.ext e0) ⟨_, _, rfl⟩ (faV_one _) (by omega) fun v h1 e1 o1 w1 w1' => ?_
        have z1 := e1.size
        try simp at z1
        have E1 := Ext.trans e0 e1
        have k1 := F1 _ E1
        have k2 := F2 _ E1
        obtain ⟨va, vn, vc, rfl, -, -, -⟩ := o1.form
        try simp (disch := omega) [k1, k2]
        refine ⟨?_, ?_⟩
        · skip
          refine last (po := h1.size) (m := h.size) (fv := .slice va vn vc) (by repeat' (first | (with_reducible exact Ext.refl _) | (with_reducible assumption) | (with_reducible refine push_ext ?_) | (with_reducible refine hset_ext ?_ ?_) | (with_reducible refine Ext.trans ?_ (by assumption)) | omega | (simp; done) | (simp; omega) | (refine Ext.size ?_) | (refine Nat.le_succ_of_le (Ext.size ?_)))) (obj_set (arr := #[.pointer none]) (by repeat' (first | (with_reducible assumption) | (exact get_pushed (by first | rfl | omega | (simp; done) | (simp; omega))) | (refine (get_hset' ?_).trans ?_) | (refine (get_push ?_).trans ?_) | (refine (get_ext (by assumption) ?_).trans ?_) | omega | (simp; done) | (simp; omega)))) (by repeat' (first | (with_reducible assumption) | (exact get_pushed (by first | rfl | omega | (simp; done) | (simp; omega))) | (refine (get_hset' ?_).trans ?_) | (refine (get_push ?_).trans ?_) | (refine (get_ext (by assumption) ?_).trans ?_) | omega | (simp; done) | (simp; omega))) ?_ (o1.ext (by repeat' (first | (with_reducible exact Ext.refl _) | (with_reducible assumption) | (with_reducible refine push_ext ?_) | (with_reducible refine hset_ext ?_ ?_) | (with_reducible refine Ext.trans ?_ (by assumption)) | omega | (simp; done) | (simp; omega) | (refine Ext.size ?_) | (refine Nat.le_succ_of_le (Ext.size ?_))))) (by first | omega | (simp; omega)) (by first | omega | (simp; omega)) (by first | omega | (simp; omega)) (fun b hb => by have := w1 b hb; first | omega | (simp at this; omega))
          exact (mk.ext e1).ext (by repeat' (first | (with_reducible exact Ext.refl _) | (with_reducible assumption) | (with_reducible refine push_ext ?_) | (with_reducible refine hset_ext ?_ ?_) | (with_reducible refine Ext.trans ?_ (by assumption)) | omega | (simp; done) | (simp; omega) | (refine Ext.size ?_) | (refine Nat.le_succ_of_le (Ext.size ?_))))
        · skip
          refine last (po := h1.size + 1) (m := h.size) (fv := .slice va vn vc) (by repeat' (first | (with_reducible exact Ext.refl _) | (with_reducible assumption) | (with_reducible refine push_ext ?_) | (with_reducible refine hset_ext ?_ ?_) | (with_reducible refine Ext.trans ?_ (by assumption)) | omega | (simp; done) | (simp; omega) | (refine Ext.size ?_) | (refine Nat.le_succ_of_le (Ext.size ?_)))) (obj_set (arr := #[.pointer none]) (by repeat' (first | (with_reducible assumption) | (exact get_pushed (by first | rfl | omega | (simp; done) | (simp; omega))) | (refine (get_hset' ?_).trans ?_) | (refine (get_push ?_).trans ?_) | (refine (get_ext (by assumption) ?_).trans ?_) | omega | (simp; done) | (simp; omega)))) (by repeat' (first | (with_reducible assumption) | (exact get_pushed (by first | rfl | omega | (simp; done) | (simp; omega))) | (refine (get_hset' ?_).trans ?_) | (refine (get_push ?_).trans ?_) | (refine (get_ext (by assumption) ?_).trans ?_) | omega | (simp; done) | (simp; omega))) ?_ (o1.ext (by repeat' (first | (with_reducible exact Ext.refl _) | (with_reducible assumption) | (with_reducible refine push_ext ?_) | (with_reducible refine hset_ext ?_ ?_) | (with_reducible refine Ext.trans ?_ (by assumption)) | omega | (simp; done) | (simp; omega) | (refine Ext.size ?_) | (refine Nat.le_succ_of_le (Ext.size ?_))))) (by first | omega | (simp; omega)) (by first | omega | (simp; omega)) (by first | omega | (simp; omega)) (fun b hb => by have := w1 b hb; first | omega | (simp at this; omega))
          exact (mk.ext e1).ext (by repeat' (first | (with_reducible exact Ext.refl _) | (with_reducible assumption) | (with_reducible refine push_ext ?_) | (with_reducible refine hset_ext ?_ ?_) | (with_reducible refine Ext.trans ?_ (by assumption)) | omega | (simp; done) | (simp; omega) | (refine Ext.size ?_) | (refine Nat.le_succ_of_le (Ext.size ?_))))
      · have e0' : Ext h ((h.push (.map #[] 0)).push (.cells #[.pointer none] 26)) := (by repeat' (first | (with_reducible exact Ext.refl _) | (with_reducible assumption) | (with_reducible refine push_ext ?_) | (with_reducible refine hset_ext ?_ ?_) | (with_reducible refine Ext.trans ?_ (by assumption)) | omega | (simp; done) | (simp; omega) | (refine Ext.size ?_) | (refine Nat.le_succ_of_le (Ext.size ?_))))
        refine fclone_c (hsrc.ext e0') ⟨_, _, rfl⟩ (faV_one _) (by omega) fun v h1 e1 o1 w1 w1' => ?_
        have z1 := e1.size
        try simp at z1
        have E1 := Ext.trans e0' e1
        have k1 := F1 _ E1
        have k2 := F2 _ E1
        obtain ⟨va, vn, vc, rfl, -, -, -⟩ := o1.form
        try simp (disch := omega) [k1, k2]
        have q : h1[h.size + 1]? = some (.cells #[.pointer none] 26) := (get_ext e1 (by simp)).trans (get_pushed (by simp))
        have qc := cellOf (i := 0) q rfl
        have qf := frzOf (i := 0) q
        simp (disch := omega) [qc, qf]
        refine last (po := h1.size) (m := h.size) (fv := .slice va vn vc) (by repeat' (first | (with_reducible exact Ext.refl _) | (with_reducible assumption) | (with_reducible refine push_ext ?_) | (with_reducible refine hset_ext ?_ ?_) | (with_reducible refine Ext.trans ?_ (by assumption)) | omega | (simp; done) | (simp; omega) | (refine Ext.size ?_) | (refine Nat.le_succ_of_le (Ext.size ?_)))) (obj_set (arr := #[.pointer none]) (by repeat' (first | (with_reducible assumption) | (exact get_pushed (by first | rfl | omega | (simp; done) | (simp; omega))) | (refine (get_hset' ?_).trans ?_) | (refine (get_push ?_).trans ?_) | (refine (get_ext (by assumption) ?_).trans ?_) | omega | (simp; done) | (simp; omega)))) (by repeat' (first | (with_reducible assumption) | (exact get_pushed (by first | rfl | omega | (simp; done) | (simp; omega))) | (refine (get_hset' ?_).trans ?_) | (refine (get_push ?_).trans ?_) | (refine (get_ext (by assumption) ?_).trans ?_) | omega | (simp; done) | (simp; omega))) ?_ (o1.mod (S := (· = h.size + 1)) (by repeat' (first | (with_reducible exact Mod.refl _ _) | (with_reducible assumption) | (with_reducible refine Mod.pushIn ?_) | (with_reducible refine Mod.setIn ?_ ?_) | (with_reducible refine Mod.putIn ?_ ?_) | (with_reducible refine Mod.extIn ?_ (by assumption)) | (exact Or.inr (by first | omega | (simp; done) | (simp; omega))) | (exact Or.inl (by first | (simp; done) | (simp; omega))))) (fun b hb e => by have := w1 b hb; first | omega | (simp at this; omega))) (by first | omega | (simp; omega)) (by first | omega | (simp; omega)) (by first | omega | (simp; omega)) (fun b hb => by have := w1 b hb; first | omega | (simp at this; omega))
        exact ((mk.ext ((by repeat' (first | (with_reducible exact Ext.refl _) | (with_reducible assumption) | (with_reducible refine push_ext ?_) | (with_reducible refine hset_ext ?_ ?_) | (with_reducible refine Ext.trans ?_ (by assumption)) | omega | (simp; done) | (simp; omega) | (refine Ext.size ?_) | (refine Nat.le_succ_of_le (Ext.size ?_)))) : Ext _ ((h.push (.map #[] 0)).push (.cells #[.pointer none] 26)))).ext e1).mod (S := (· = h.size + 1)) (by repeat' (first | (with_reducible exact Mod.refl _ _) | (with_reducible assumption) | (with_reducible refine Mod.pushIn ?_) | (with_reducible refine Mod.setIn ?_ ?_) | (with_reducible refine Mod.putIn ?_ ?_) | (with_reducible refine Mod.extIn ?_ (by assumption)) | (exact Or.inr (by first | omega | (simp; done) | (simp; omega))) | (exact Or.inl (by first | (simp; done) | (simp; omega))))) (by omega)
    · skip
      refine fclone_c (hsrc.ext (Ext.refl h)) ⟨_, _, rfl⟩ (faV_one _) (by omega) fun v h1 e1 o1 w1 w1' => ?_
      have z1 := e1.size
      try simp at z1
      have E1 := Ext.trans (Ext.refl h) e1
      have k1 := F1 _ E1
      have k2 := F2 _ E1
      obtain ⟨va, vn, vc, rfl, -, -, -⟩ := o1.form
      try simp (disch := omega) [k1, k2]

      refine ⟨?_, ?_⟩
      · rw [Hp_makeMap]
        simp (disch := omega) [k1, k2]
        have mk := MapK.new (kV := str) (b := h1.size) (h := h1) rfl
        refine ⟨?_, ?_⟩
        · skip
          refine last (po := h1.size + 1) (m := h1.size) (fv := .slice va vn vc) (by repeat' (first | (with_reducible exact Ext.refl _) | (with_reducible assumption) | (with_reducible refine push_ext ?_) | (with_reducible refine hset_ext ?_ ?_) | (with_reducible refine Ext.trans ?_ (by assumption)) | omega | (simp; done) | (simp; omega) | (refine Ext.size ?_) | (refine Nat.le_succ_of_le (Ext.size ?_)))) (obj_set (arr := #[.pointer none]) (by repeat' (first | (with_reducible assumption) | (exact get_pushed (by first | rfl | omega | (simp; done) | (simp; omega))) | (refine (get_hset' ?_).trans ?_) | (refine (get_push ?_).trans ?_) | (refine (get_ext (by assumption) ?_).trans ?_) | omega | (simp; done) | (simp; omega)))) (by repeat' (first | (with_reducible assumption) | (exact get_pushed (by first | rfl | omega | (simp; done) | (simp; omega))) | (refine (get_hset' ?_).trans ?_) | (refine (get_push ?_).trans ?_) | (refine (get_ext (by assumption) ?_).trans ?_) | omega | (simp; done) | (simp; omega))) ?_ (o1.ext (by repeat' (first | (with_reducible exact Ext.refl _) | (with_reducible assumption) | (with_reducible refine push_ext ?_) | (with_reducible refine hset_ext ?_ ?_) | (with_reducible refine Ext.trans ?_ (by assumption)) | omega | (simp; done) | (simp; omega) | (refine Ext.size ?_) | (refine Nat.le_succ_of_le (Ext.size ?_))))) (by first | omega | (simp; omega)) (by first | omega | (simp; omega)) (by first | omega | (simp; omega)) (fun b hb => by have := w1 b hb; first | omega | (simp at this; omega))
          exact mk.ext (by repeat' (first | (with_reducible exact Ext.refl _) | (with_reducible assumption) | (with_reducible refine push_ext ?_) | (with_reducible refine hset_ext ?_ ?_) | (with_reducible refine Ext.trans ?_ (by assumption)) | omega | (simp; done) | (simp; omega) | (refine Ext.size ?_) | (refine Nat.le_succ_of_le (Ext.size ?_))))
        · skip
          refine last (po := h1.size + 2) (m := h1.size) (fv := .slice va vn vc) (by repeat' (first | (with_reducible exact Ext.refl _) | (with_reducible assumption) | (with_reducible refine push_ext ?_) | (with_reducible refine hset_ext ?_ ?_) | (with_reducible refine Ext.trans ?_ (by assumption)) | omega | (simp; done) | (simp; omega) | (refine Ext.size ?_) | (refine Nat.le_succ_of_le (Ext.size ?_)))) (obj_set (arr := #[.pointer none]) (by repeat' (first | (with_reducible assumption) | (exact get_pushed (by first | rfl | omega | (simp; done) | (simp; omega))) | (refine (get_hset' ?_).trans ?_) | (refine (get_push ?_).trans ?_) | (refine (get_ext (by assumption) ?_).trans ?_) | omega | (simp; done) | (simp; omega)))) (by repeat' (first | (with_reducible assumption) | (exact get_pushed (by first | rfl | omega | (simp; done) | (simp; omega))) | (refine (get_hset' ?_).trans ?_) | (refine (get_push ?_).trans ?_) | (refine (get_ext (by assumption) ?_).trans ?_) | omega | (simp; done) | (simp; omega))) ?_ (o1.ext (by repeat' (first | (with_reducible exact Ext.refl _) | (with_reducible assumption) | (with_reducible refine push_ext ?_) | (with_reducible refine hset_ext ?_ ?_) | (with_reducible refine Ext.trans ?_ (by assumption)) | omega | (simp; done) | (simp; omega) | (refine Ext.size ?_) | (refine Nat.le_succ_of_le (Ext.size ?_))))) (by first | omega | (simp; omega)) (by first | omega | (simp; omega)) (by first | omega | (simp; omega)) (fun b hb => by have := w1 b hb; first | omega | (simp at this; omega))
          exact mk.ext (by repeat' (first | (with_reducible exact Ext.refl _) | (with_reducible assumption) | (with_reducible refine push_ext ?_) | (with_reducible refine hset_ext ?_ ?_) | (with_reducible refine Ext.trans ?_ (by assumption)) | omega | (simp; done) | (simp; omega) | (refine Ext.size ?_) | (refine Nat.le_succ_of_le (Ext.size ?_))))
      · rw [Hp_makeMap]
        simp (disch := omega) [k1, k2]
        have mk := MapK.new (kV := str) (b := h1.size + 1) (h := h1.push (.cells #[.pointer none] 26)) (by simp)
        refine last (po := h1.size + 2) (m := h1.size + 1) (fv := .slice va vn vc) (by repeat' (first | (with_reducible exact Ext.refl _) | (with_reducible assumption) | (with_reducible refine push_ext ?_) | (with_reducible refine hset_ext ?_ ?_) | (with_reducible refine Ext.trans ?_ (by assumption)) | omega | (simp; done) | (simp; omega) | (refine Ext.size ?_) | (refine Nat.le_succ_of_le (Ext.size ?_)))) (obj_set (arr := #[.pointer none]) (by repeat' (first | (with_reducible assumption) | (exact get_pushed (by first | rfl | omega | (simp; done) | (simp; omega))) | (refine (get_hset' ?_).trans ?_) | (refine (get_push ?_).trans ?_) | (refine (get_ext (by assumption) ?_).trans ?_) | omega | (simp; done) | (simp; omega)))) (by repeat' (first | (with_reducible assumption) | (exact get_pushed (by first | rfl | omega | (simp; done) | (simp; omega))) | (refine (get_hset' ?_).trans ?_) | (refine (get_push ?_).trans ?_) | (refine (get_ext (by assumption) ?_).trans ?_) | omega | (simp; done) | (simp; omega))) ?_ (o1.ext (by repeat' (first | (with_reducible exact Ext.refl _) | (with_reducible assumption) | (with_reducible refine push_ext ?_) | (with_reducible refine hset_ext ?_ ?_) | (with_reducible refine Ext.trans ?_ (by assumption)) | omega | (simp; done) | (simp; omega) | (refine Ext.size ?_) | (refine Nat.le_succ_of_le (Ext.size ?_))))) (by first | omega | (simp; omega)) (by first | omega | (simp; omega)) (by first | omega | (simp; omega)) (fun b hb => by have := w1 b hb; first | omega | (simp at this; omega))
        exact mk.mod (S := (· = h1.size)) (by repeat' (first | (with_reducible exact Mod.refl _ _) | (with_reducible assumption) | (with_reducible refine Mod.pushIn ?_) | (with_reducible refine Mod.setIn ?_ ?_) | (with_reducible refine Mod.putIn ?_ ?_) | (with_reducible refine Mod.extIn ?_ (by assumption)) | (exact Or.inr (by first | omega | (simp; done) | (simp; omega))) | (exact Or.inl (by first | (simp; done) | (simp; omega))))) (by omega)
    · rw [Hp_makeMap]
      simp (disch := omega) [f1, f2]
      have e0' : Ext h ((h.push (.cells #[.pointer none] 26)).push (.map #[] 0)) := (by repeat' (first | (with_reducible exact Ext.refl _) | (with_reducible assumption) | (with_reducible refine push_ext ?_) | (with_reducible refine hset_ext ?_ ?_) | (with_reducible refine Ext.trans ?_ (by assumption)) | omega | (simp; done) | (simp; omega) | (refine Ext.size ?_) | (refine Nat.le_succ_of_le (Ext.size ?_))))
      have mk := MapK.new (kV := str) (b := h.size + 1) (h := h.push (.cells #[.pointer none] 26)) (by simp)
      refine ⟨?_, ?_⟩
      · skip
        refine fclone_c (hsrc.ext e0') ⟨_, _, rfl⟩ (faV_one _) (by omega) fun v h1 e1 o1 w1 w1' => ?_
        have z1 := e1.size
        try simp at z1
        have E1 := Ext.trans e0' e1
        have k1 := F1 _ E1
        have k2 := F2 _ E1
        obtain ⟨va, vn, vc, rfl, -, -, -⟩ := o1.form
        try simp (disch := omega) [k1, k2]
        have q : h1[h.size]? = some (.cells #[.pointer none] 26) := (get_ext e1 (by simp; omega)).trans ((get_push (by simp)).trans (get_pushed rfl))
        have qc := cellOf (i := 0) q rfl
        have qf := frzOf (i := 0) q
        simp (disch := omega) [qc, qf]
        refine last (po := h1.size) (m := h.size + 1) (fv := .slice va vn vc) (by repeat' (first | (with_reducible exact Ext.refl _) | (with_reducible assumption) | (with_reducible refine push_ext ?_) | (with_reducible refine hset_ext ?_ ?_) | (with_reducible refine Ext.trans ?_ (by assumption)) | omega | (simp; done) | (simp; omega) | (refine Ext.size ?_) | (refine Nat.le_succ_of_le (Ext.size ?_)))) (obj_set (arr := #[.pointer none]) (by repeat' (first | (with_reducible assumption) | (exact get_pushed (by first | rfl | omega | (simp; done) | (simp; omega))) | (refine (get_hset' ?_).trans ?_) | (refine (get_push ?_).trans ?_) | (refine (get_ext (by assumption) ?_).trans ?_) | omega | (simp; done) | (simp; omega)))) (by repeat' (first | (with_reducible assumption) | (exact get_pushed (by first | rfl | omega | (simp; done) | (simp; omega))) | (refine (get_hset' ?_).trans ?_) | (refine (get_push ?_).trans ?_) | (refine (get_ext (by assumption) ?_).trans ?_) | omega | (simp; done) | (simp; omega))) ?_ (o1.mod (S := (· = h.size)) (by repeat' (first | (with_reducible exact Mod.refl _ _) | (with_reducible assumption) | (with_reducible refine Mod.pushIn ?_) | (with_reducible refine Mod.setIn ?_ ?_) | (with_reducible refine Mod.putIn ?_ ?_) | (with_reducible refine Mod.extIn ?_ (by assumption)) | (exact Or.inr (by first | omega | (simp; done) | (simp; omega))) | (exact Or.inl (by first | (simp; done) | (simp; omega))))) (fun b hb e => by have := w1 b hb; first | omega | (simp at this; omega))) (by first | omega | (simp; omega)) (by first | omega | (simp; omega)) (by first | omega | (simp; omega)) (fun b hb => by have := w1 b hb; first | omega | (simp at this; omega))
        exact (mk.ext e1).mod (S := (· = h.size)) (by repeat' (first | (with_reducible exact Mod.refl _ _) | (with_reducible assumption) | (with_reducible refine Mod.pushIn ?_) | (with_reducible refine Mod.setIn ?_ ?_) | (with_reducible refine Mod.putIn ?_ ?_) | (with_reducible refine Mod.extIn ?_ (by assumption)) | (exact Or.inr (by first | omega | (simp; done) | (simp; omega))) | (exact Or.inl (by first | (simp; done) | (simp; omega))))) (by omega)
      · have e0 : Ext h (h.push (.cells #[.pointer none] 26)) := (by repeat' (first | (with_reducible exact Ext.refl _) | (with_reducible assumption) | (with_reducible refine push_ext ?_) | (with_reducible refine hset_ext ?_ ?_) | (with_reducible refine Ext.trans ?_ (by assumption)) | omega | (simp; done) | (simp; omega) | (refine Ext.size ?_) | (refine Nat.le_succ_of_le (Ext.size ?_))))
        refine fclone_c (hsrc.ext e0) ⟨_, _, rfl⟩ (faV_one _) (by omega) fun v h1 e1 o1 w1 w1' => ?_
        have z1 := e1.size
        try simp at z1
        have E1 := Ext.trans e0 e1
        have k1 := F1 _ E1
        have k2 := F2 _ E1
        obtain ⟨va, vn, vc, rfl, -, -, -⟩ := o1.form
        try simp (disch := omega) [k1, k2]
        rw [Hp_makeMap]
        have q : h1[h.size]? = some (.cells #[.pointer none] 26) := (get_ext e1 (by simp)).trans (get_pushed rfl)
        have qc := cellOf (i := 0) q rfl
        have qf := frzOf (i := 0) q
        simp (disch := omega) [k1, k2, qc, qf]
        have mk := MapK.new (kV := str) (b := h1.size) (h := h1) rfl
        refine last (po := h1.size + 1) (m := h1.size) (fv := .slice va vn vc) (by repeat' (first | (with_reducible exact Ext.refl _) | (with_reducible assumption) | (with_reducible refine push_ext ?_) | (with_reducible refine hset_ext ?_ ?_) | (with_reducible refine Ext.trans ?_ (by assumption)) | omega | (simp; done) | (simp; omega) | (refine Ext.size ?_) | (refine Nat.le_succ_of_le (Ext.size ?_)))) (obj_set (arr := #[.pointer none]) (by repeat' (first | (with_reducible assumption) | (exact get_pushed (by first | rfl | omega | (simp; done) | (simp; omega))) | (refine (get_hset' ?_).trans ?_) | (refine (get_push ?_).trans ?_) | (refine (get_ext (by assumption) ?_).trans ?_) | omega | (simp; done) | (simp; omega)))) (by repeat' (first | (with_reducible assumption) | (exact get_pushed (by first | rfl | omega | (simp; done) | (simp; omega))) | (refine (get_hset' ?_).trans ?_) | (refine (get_push ?_).trans ?_) | (refine (get_ext (by assumption) ?_).trans ?_) | omega | (simp; done) | (simp; omega))) ?_ (o1.mod (S := (· = h.size)) (by repeat' (first | (with_reducible exact Mod.refl _ _) | (with_reducible assumption) | (with_reducible refine Mod.pushIn ?_) | (with_reducible refine Mod.setIn ?_ ?_) | (with_reducible refine Mod.putIn ?_ ?_) | (with_reducible refine Mod.extIn ?_ (by assumption)) | (exact Or.inr (by first | omega | (simp; done) | (simp; omega))) | (exact Or.inl (by first | (simp; done) | (simp; omega))))) (fun b hb e => by have := w1 b hb; first | omega | (simp at this; omega))) (by first | omega | (simp; omega)) (by first | omega | (simp; omega)) (by first | omega | (simp; omega)) (fun b hb => by have := w1 b hb; first | omega | (simp at this; omega))
        exact mk.mod (S := (· = h.size)) (by repeat' (first | (with_reducible exact Mod.refl _ _) | (with_reducible assumption) | (with_reducible refine Mod.pushIn ?_) | (with_reducible refine Mod.setIn ?_ ?_) | (with_reducible refine Mod.putIn ?_ ?_) | (with_reducible refine Mod.extIn ?_ (by assumption)) | (exact Or.inr (by first | omega | (simp; done) | (simp; omega))) | (exact Or.inl (by first | (simp; done) | (simp; omega))))) (by omega)
  · obtain ⟨bO, po, m', fv', N⟩ := hg
    obtain rfl := N.o
    have ag := a.ext N.ext
    have pc0 := cellOf (i := 0) ag.cells rfl
    have hbz := N.ext.size
    have hfew := a.few
    refine JoinN_in1 (fun D g2 => ∃ s2, D = consD (g.size + 1) (.tuple #[]) ∧ g2[g.size + 1]? = some (.deferred (some [])) ∧ CT h g2 po bO s s2 ∧ (s2.F.map Fh.f).Perm (s.F.map Fh.f)) (fun kk hkk => ?_) (fun D g2 hD => ?_)
    · have C0 : CT h g po bO s ⟨[], s.fates, s.steps, m', fv'⟩ := ⟨N.ext, N.cell, N.st, N.foot, fun x hx => (by cases hx), rfl, rfl, fun x hx => (by cases hx)⟩
      unfold ptrV
      simp (disch := omega) [pc0]
      refine n91_calls ?_
      unfold n91
      simp (disch := omega)
      refine JoinN.mk ?_
      refine (⟨_, rfl⟩ : ∃ x, x = g.push (.cells #[.map (some s.m)] 66)).elim fun h0 eh0 => ?_
      have e0 : Ext g h0 := by rw [eh0]; exact (by repeat' (first | (with_reducible exact Ext.refl _) | (with_reducible assumption) | (with_reducible refine push_ext ?_) | (with_reducible refine hset_ext ?_ ?_) | (with_reducible refine Ext.trans ?_ (by assumption)) | omega | (simp; done) | (simp; omega) | (refine Ext.size ?_) | (refine Nat.le_succ_of_le (Ext.size ?_))))
      have z0 : h0.size = g.size + 1 := by rw [eh0]; simp
      have q0 : h0[g.size]? = some (.cells #[.map (some s.m)] 66) := by rw [eh0]; exact get_pushed rfl
      rw [show g.push (.cells #[.map (some s.m)] 66) = h0 from eh0.symm]
      clear eh0
      refine RangeC_none rfl fun oR oB oE oX oF Kp hoR hoB hrd hN hR hX => ?_
      clear hR hX
      refine (⟨_, rfl⟩ : ∃ x, x = (h0.push (.deferred (some []))).push oR).elim fun h1 eh1 => ?_
      have e1 : Ext h0 h1 := by rw [eh1]; exact (by repeat' (first | (with_reducible exact Ext.refl _) | (with_reducible assumption) | (with_reducible refine push_ext ?_) | (with_reducible refine hset_ext ?_ ?_) | (with_reducible refine Ext.trans ?_ (by assumption)) | omega | (simp; done) | (simp; omega) | (refine Ext.size ?_) | (refine Nat.le_succ_of_le (Ext.size ?_))))
      have z1 : h1.size = g.size + 3 := by rw [eh1]; simp [z0]
      have rD : h1[g.size + 1]? = some (.deferred (some [])) := by rw [eh1, get_push (by simp; omega), get_pushed (by omega)]
      have rL : h1[g.size + 2]? = some oR := by rw [eh1, get_pushed (by simp; omega)]
      rw [← eh1]
      clear eh1
      rw [z0] at hrd hN ⊢
      refine InvokeH_k1 (by kernel_rfl) ?_
      refine n99_calls ?_
      unfold n99
      have c0 := cellOf (i := 0) ((e1.block g.size (by omega)).trans q0) rfl
      simp (disch := omega) [c0]
      have E1 := e0.trans e1
      refine Hp_rangeM (by kernel_rfl) (ag.map.ext E1) fun h2 e2 hit hs2 => ?_
      have E2 := E1.trans e2
      have hbO := get_some_lt N.cell
      have hsm := a.map.lt
      have hkl : s.keys.length = s.F.length := List.length_map _
      refine loopMap0 (fun I g2 => ∃ t, CT h g2 po bO s t ∧ g2[g.size + 1]? = some (.deferred (some [])) ∧ g2[g.size + 2]? = some oR ∧ t.F.map Fh.f = (I.filterMap (fun i => s.F[i]?)).map Fh.f) hit ⟨_, C0.of_ext E2, (e2.block _ (by omega)).trans rD, (e2.block _ (by omega)).trans rL, rfl⟩ ?_
      rintro I g2 hI hn hlt ⟨t, C, gD, gL, ht⟩ X hX
      have hIl := nodup_len hn hlt
      have hgz := C.ext.size
      refine Hp_next hI (fun i hi hiI g' m' hI' => ?_) (fun hall => ?_)
      · simp (disch := omega)
        rw [Hp_entry hI' hi]
        simp (disch := omega)
        have hiF : i < s.F.length := by omega
        obtain ⟨x, hxd⟩ : ∃ x, x = s.F[i] := ⟨_, rfl⟩
        have hxF : x ∈ s.F := hxd ▸ List.getElem_mem hiF
        have hki : s.keys[i] = (x.name, ptrV x.b) := by
          have h9 : s.keys[i]? = some (x.name, ptrV x.b) := by
            unfold St.keys
            rw [List.getElem?_map, List.getElem?_eq_getElem hiF, ← hxd]; rfl
          rw [List.getElem?_eq_getElem hi] at h9
          exact Option.some.inj h9
        rw [hki]
        dsimp only
        obtain ⟨es, cl, m1, m2, m4, m5, m6, m7, m8⟩ := hI
        have hitn : ∀ b, t.foot po b → b ≠ h1.size := fun b hb e => by
          rcases C.st.cellsOr hb with ⟨arr, tt, ha⟩ | ⟨es, cl, ha⟩
          · rw [e, m6] at ha; cases ha
          · rw [e, m6] at ha; cases ha
        have C' := C.mod m' (fun b e => by omega) (by omega) (fun b e hb => hitn b hb e)
        have gD' := (m'.block (g.size + 1) (get_some_lt gD) (by omega)).trans gD
        have gL' := (m'.block (g.size + 2) (get_some_lt gL) (by omega)).trans gL
        refine hrd [str x.name, ptrV x.b] g' _ rfl gL' ⟨gL', ?_⟩
        refine (⟨_, rfl⟩ : ∃ f, f = g'.setIfInBounds (g.size + 1 + 1) oB).elim fun gB egB => ?_
        have mB : Mod (· = g.size + 2) g' gB := by rw [egB]; exact Mod.put _ _ _
        have gLB : gB[g.size + 2]? = some oB := by rw [egB]; exact get_put (get_some_lt gL')
        rw [← egB]
        clear egB
        have gDB := (mB.block (g.size + 1) (get_some_lt gD') (by omega)).trans gD'
        have CB := C'.mod mB (fun b e => by omega) (by omega) (fun b e hb => C'.st.neL hb hoR (e ▸ gL') e)
        have hIB := hI'.mod mB (fun e => by omega) (fun e => by omega)
        have aB := a.ext CB.ext
        have hfl := aB.fl x hxF
        have hfl0 := a.fl x hxF
        have hlast : x.last.length ≤ 268435456 := hfl.ok.few
        have hnow := hfl.len
        have hpf := a.pfew x hxF
        have hst0 := a.stp
        obtain ⟨la, ln, lc, hlv, hll, hlc, -⟩ := hfl.last.form
        obtain ⟨na, nn, nc, hnv, hnl, hnc, -⟩ := hfl.now.form
        obtain ⟨pa, pn, pc, hpv, hpl, hpc, -⟩ := hfl.ps.form
        obtain rfl : ln = x.last.length := by simpa using hll.symm
        obtain rfl : nn = x.last.length := by simp [hnow] at hnl; omega
        rw [pcV_len] at hpl
        obtain rfl : pn = x.qs.length := by omega
        have x0 : hcell gB ⟨x.b, 0, none⟩ = some (.slice la x.last.length lc) := hlv ▸ cellOf (i := 0) hfl.cells rfl
        have X2 : ∀ g, Ext gB g → hcell g ⟨x.b, 2, none⟩ = some (.slice na x.last.length nc) := fun g e => hnv ▸ cellOf (i := 2) (hfl.ext e).cells rfl
        have X1 : ∀ g, Ext gB g → hcell g ⟨x.b, 1, none⟩ = some (.slice pa x.qs.length pc) := fun g e => hpv ▸ cellOf (i := 1) (hfl.ext e).cells rfl
        have x2 := X2 _ (.refl _)
        have ol := hfl.last
        have on := hfl.now
        have op := hfl.ps
        rw [hlv] at ol
        rw [hnv] at on
        rw [hpv] at op
        simp (disch := omega) [getV, ptrV, x0, x2]
        refine bclone_c ol.src ⟨_, _, rfl⟩ (one_bytes _) (by omega) fun v1 g3 e3 o3 w3 w3' => ?_
        have x23 := X2 _ e3
        simp (disch := omega) [x23]
        refine bclone_c (on.ext e3).src ⟨_, _, rfl⟩ (one_bytes _) (by omega) fun v2 g4 e4 o4 w4 w4' => ?_
        have e34 := e3.trans e4
        have x14 := X1 _ e34
        obtain ⟨la', ln', lc', rfl, -, -, -⟩ := o3.form
        obtain ⟨na', nn', nc', rfl, -, -, -⟩ := o4.form
        have hxb := get_some_lt hfl.cells
        have zB := CB.ext.size
        have z3 := e3.size
        have z4 := e4.size
        simp (disch := omega) [x14]
        refine (⟨_, rfl⟩ : ∃ f, f = g4.push (.cells #[.slice la' ln' lc', .slice none 0 0, .slice na' nn' nc'] fT)).elim fun g5 eg5 => ?_
        have e5 : Ext g4 g5 := by rw [eg5]; exact (by repeat' (first | (with_reducible exact Ext.refl _) | (with_reducible assumption) | (with_reducible refine push_ext ?_) | (with_reducible refine hset_ext ?_ ?_) | (with_reducible refine Ext.trans ?_ (by assumption)) | omega | (simp; done) | (simp; omega) | (refine Ext.size ?_) | (refine Nat.le_succ_of_le (Ext.size ?_))))
        have q5 : g5[g4.size]? = some (.cells #[.slice la' ln' lc', .slice none 0 0, .slice na' nn' nc'] fT) := by rw [eg5]; exact get_pushed rfl
        rw [show g4.push (.cells #[.slice la' ln' lc', .slice none 0 0, .slice na' nn' nc'] 115) = g5 from eg5.symm]
        clear eg5
        have e35 := e34.trans e5
        refine pclone_c (op.ext e35).src ⟨_, _, rfl⟩ (fun u hu => ?_) (by omega) fun v3 g6 e6 o6 w6 w6' => ?_
        · refine pcV_one (fun q hq => ?_) u hu
          obtain ⟨ba, bc, hbv⟩ := (hfl.bs q hq).form
          rw [hbv]; rfl
        obtain ⟨pa', pn', pc', rfl, -, -, -⟩ := o6.form
        have z5 := e5.size
        have z6 := e6.size
        have l5 := get_some_lt q5
        have q6 := (e6.block _ l5).trans q5
        have k1 := cellOf (i := 1) q6 rfl
        have fr1 := frzOf (i := 1) q6
        have e36 := e35.trans e6
        have cO6 := (e36.block _ (get_some_lt CB.cO)).trans CB.cO
        have d0 := cellOf (i := 0) cO6 rfl
        have p06 := cellOf (i := 0) (CB.st.ext e36).cells rfl
        have hpo := get_some_lt CB.st.cells
        have hbOl := get_some_lt CB.cO
        simp (disch := omega) [k1, fr1, d0, p06, ptrV]
        refine (⟨_, rfl⟩ : ∃ f, f = hset g6 ⟨g4.size, 1, none⟩ (.slice pa' pn' pc')).elim fun g7 eg7 => ?_
        have q7 : g7[g4.size]? = some (.cells #[.slice la' ln' lc', .slice pa' pn' pc', .slice na' nn' nc'] fT) := by rw [eg7]; exact obj_set q6
        have m7 : Mod (· = g4.size) g6 g7 := by rw [eg7]; exact Mod.set g6 ⟨g4.size, 1, none⟩ _
        have e37 : Ext gB g7 := m7.ext_from e36 (fun b hb e => by omega)
        rw [← eg7]
        clear eg7
        have z7 := m7.size
        have hnl : ∀ b, blkG (.slice la' ln' lc') = some b → b ≠ g4.size := fun b hb e => by have := o3.lt hb; omega
        have hnn : ∀ b, blkG (.slice na' nn' nc') = some b → b ≠ g4.size := fun b hb e => by have := o4.lt hb; omega
        have hnp : ∀ b, blkG (.slice pa' pn' pc') = some b → b ≠ g4.size := fun b hb e => by have := w6 b hb; omega
        have own7 : ∀ b, Fh.own ⟨x.name, x.last, x.qs, g4.size, .slice la' ln' lc', .slice pa' pn' pc', .slice na' nn' nc'⟩ b → gB.size ≤ b := by
          rintro b (e | e | e | e)
          · have e' : b = g4.size := e; omega
          · exact w3 b e
          · have := w6 b e; omega
          · have := w4 b e; omega
        have hx7 : FlAt g7 ⟨x.name, x.last, x.qs, g4.size, .slice la' ln' lc', .slice pa' pn' pc', .slice na' nn' nc'⟩ := by
          refine ⟨q7, (((o3.ext e4).ext e5).ext e6).mod m7 (fun b hb e => hnl b hb e), ((o4.ext e5).ext e6).mod m7 (fun b hb e => hnn b hb e), o6.mod m7 (fun b hb e => hnp b hb e), fun q hq => (hfl.bs q hq).ext e37, hfl.ok, fun b hb hc => ?_, fun q hq b hb e => ?_⟩
          · have := o3.lt hb; have := w4 b hc; omega
          · have := own7 b e; have := hfl.plt hq hb; omega
        have C7 := CB.of_ext e37
        have hnI : (I ++ [i]).Nodup := nodup_snoc hn hiI
        have hlI := nodup_len (n := s.F.length) hnI (fun j hj => by
          rcases List.mem_append.1 hj with hj | hj
          · have := hlt j hj; omega
          · simp at hj; omega)
        rw [List.length_append, List.length_singleton] at hlI
        have htl : t.F.length ≤ I.length := by
          have h9 := congrArg List.length ht
          rw [List.length_map, List.length_map] at h9
          rw [h9]
          exact List.length_filterMap_le _ _
        have hdist : ∀ y ∈ t.F, y.name ≠ x.name := fun y hy e => by
          have h9 : y.f ∈ (I.filterMap (fun i => s.F[i]?)).map Fh.f := ht ▸ List.mem_map_of_mem hy
          obtain ⟨z, hz, hzy⟩ := List.mem_map.1 h9
          obtain ⟨j, hj, hjz⟩ := List.mem_filterMap.1 hz
          obtain ⟨hjl, rfl⟩ := List.getElem?_eq_some_iff.1 hjz
          have e2 : s.F[j].name = y.name := congrArg Fl.name hzy
          have nd := a.nodup
          have e3 : (s.F.map (·.name))[j]'(by simpa using hjl) = (s.F.map (·.name))[i]'(by simpa using hiF) := by
            rw [List.getElem_map, List.getElem_map, e2, e, hxd]
          have nd2 := List.pairwise_iff_getElem.1 nd
          rcases Nat.lt_trichotomy j i with h9 | h9 | h9
          · exact nd2 j i _ _ h9 e3
          · rw [h9] at hj
            exact hiI hj
          · exact nd2 i j _ _ h9 e3.symm
        refine Hp_mapUpdate storeKey C7.st.map fun g8 mk8 m8' => ?_
        obtain ⟨st8, ft8⟩ := StAt.addP (n := gB.size) C7.st (fun b hb => CB.st.lt hb) (fun y hy q hq b hb => by have := C7.qs y hy q hq b hb; omega) hx7
          (fun q hq b hb e => by have := hfl0.plt hq hb; have := (C7.foot b e).1; omega) (by rw [C7.stp]; exact hpf) own7 (a.names x hxF) hdist (by omega) mk8 m8'
        have ht7 := C7.foot t.m (.inr (.inl rfl))
        have e8 : Ext h g8 := m8'.ext_from C7.ext (fun b hb e => by omega)
        have C8 : CT h g8 po bO s { t with F := t.F ++ [⟨x.name, x.last, x.qs, g4.size, .slice la' ln' lc', .slice pa' pn' pc', .slice na' nn' nc'⟩] } := by
          refine ⟨e8, (m8'.block _ (get_some_lt C7.cO) (fun e => by omega)).trans C7.cO, st8, fun b hb => (ft8 b hb).elim (C7.foot b) (fun e => by have := own7 b e; omega), fun y hy q hq b hb => ?_, C7.fat, C7.stp, fun y hy q hq => ?_⟩
          rcases List.mem_append.1 hy with hy | hy
          · exact C7.qs y hy q hq b hb
          · simp at hy; subst hy
            exact hfl0.plt hq hb
          rcases List.mem_append.1 hy with hy | hy
          · exact C7.qq y hy q hq
          · simp at hy; subst hy
            exact ⟨x, hxF, hq⟩
        have hmL : t.m ≠ g.size + 2 := fun e => CB.st.neL (.inr (.inl rfl)) hoB gLB e
        have gL8 : g8[g.size + 2]? = some oB := (m8'.block _ (by have := get_some_lt gLB; omega) (by omega)).trans ((e37.block _ (get_some_lt gLB)).trans gLB)
        have hmD : t.m ≠ g.size + 1 := fun e => by
          rcases CB.st.cellsOr (b := t.m) (.inr (.inl rfl)) with ⟨arr, tt, ha⟩ | ⟨es, cl, ha⟩
          · rw [e, gDB] at ha; cases ha
          · rw [e, gDB] at ha; cases ha
        have hmI : t.m ≠ h1.size := hitn _ (.inr (.inl rfl))
        have gD8 : g8[g.size + 1]? = some (.deferred (some [])) := (m8'.block _ (by have := get_some_lt gDB; omega) (by omega)).trans ((e37.block _ (get_some_lt gDB)).trans gDB)
        have hI8 := (hIB.ext e37).mod m8' (fun e => by omega) (fun e => by omega)
        refine ⟨gL8, ?_⟩
        have mR := Mod.put g8 (g.size + 1 + 1) oR
        simp (disch := omega)
        refine hX i _ hiI hi (hI8.mod mR (fun e => by omega) (fun e => by omega)) ⟨_, C8.mod mR (fun b e => by omega) (by omega) (fun b e hb => C8.st.neL hb hoB (e ▸ gL8) e), (mR.block _ (get_some_lt gD8) (by omega)).trans gD8, get_put (get_some_lt gL8), ?_⟩
        rw [List.filterMap_append, List.map_append, List.map_append, ht]
        congr 1
        rw [List.filterMap_cons, List.getElem?_eq_getElem hiF, ← hxd]
        rfl
      · simp (disch := omega)
        refine hN _ _ gL ?_
        dsimp only
        have mE := Mod.put g2 (g.size + 1 + 1) oE
        refine hkk _ _ ⟨t, rfl, (mE.block _ (get_some_lt gD) (by omega)).trans gD, C.mod mE (fun b e => by omega) (by omega) (fun b e hb => C.st.neL hb hoR (e ▸ gL) e), ?_⟩
        rw [ht]
        refine List.Perm.map _ ?_
        have hp : I.Perm (List.range s.F.length) := by
          refine (List.perm_ext_iff_of_nodup hn List.nodup_range).2 fun i => ⟨fun hi => ?_, fun hi => hall i (by simp at hi; omega)⟩
          have := hlt i hi
          simp; omega
        have h2 := hp.filterMap (fun i => s.F[i]?)
        rw [range_filterS] at h2
        exact h2
    · obtain ⟨s2, rfl, hd, C, hp⟩ := hD
      have c0 := cellOf (i := 0) C.cO rfl
      unfold ptrV
      simp (disch := omega) [c0]
      refine RetD_one' hd ?_
      have md := Mod.put g2 (g.size + 1) (.deferred none)
      have hz := N.ext.size
      have hbO := get_some_lt N.cell
      have C2 := C.mod md (fun b e => by omega) (by omega) (fun b e hb => by
        rcases C.st.cellsOr hb with ⟨arr, tt, ha⟩ | ⟨es, cl, ha⟩
        · rw [e, hd] at ha; cases ha
        · rw [e, hd] at ha; cases ha)
      exact H _ po s2 C2.ext C2.st hp C.fat C.stp (C.foot po (.inl rfl)).1 (fun b hb => (C.foot b hb).1) C.qq
theorem Copy_c {p : Nat} {s : St} (a : StAt h p s)
    (H : ∀ h' p' s', Ext h h' → StAt h' p' s' → (s'.F.map Fh.f).Perm (s.F.map Fh.f) → s'.fates = s.fates → s'.steps = s.steps → h.size ≤ p' → (∀ b, s'.foot p' b → h.size ≤ b) → K (ptrV p') h') :
    CallsH Try.prog 69 #[ptrV p] h K ⟨⟩ :=
  Copy_c2 a fun h' p' s' e1 e2 e3 e4 e5 e6 e7 _ => H h' p' s' e1 e2 e3 e4 e5 e6 e7
end Go.Proofs.Ytdmcaaojapcbcaa
