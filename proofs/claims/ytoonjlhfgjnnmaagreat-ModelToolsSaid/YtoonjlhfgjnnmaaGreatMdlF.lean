/- Model: at most one above; bytes compared; an image removed; slices cloned. Model: another world of the same images. Model: an image of the same content made. Model: an image grown from a cluster's end on. Model: an image's content given to its backing. Model: another backing, with what is told kept. Model: an image cut to one sector. -/
import Derived.Test.YtoonjlhfgjnnmaaGreatMdlE
import Derived.Test.YtoonjlhfgjnnmaaGreatVcApp0
set_option linter.unusedSimpArgs false
set_option linter.unusedVariables false
namespace Go.Proofs.YtoonjlhfgjnnmaaGreat
open Go.Vc
variable {K : Value → Heap → Prop} {h : Heap}

theorem above1_c {w wm : Nat} {xs : List Im} {x : Im} {nm0 : List UInt8} (a : WdAt h w wm xs) (hx : x ∈ xs) (huq : ∀ y ∈ xs, y.bk = x.nm → y.nm = nm0)
    (H : ∀ h' n, Ext h h' → n < 9223372036854775808 → n ≤ 1 → K (.int .i64 (n : Nat)) h') : CallsH Tryz.prog 37 #[ptrV w, ptrV x.b] h K ⟨⟩ := by
  refine n37_calls ?_
  unfold n37 ptrV
  obtain ⟨M, hm, hlk⟩ := a.map
  simp (disch := omega) [cellOf (i := 0) a.cells rfl]
  refine Hp_range (kt := 9) (et := 62) (by kernel_rfl) hm fun h1 e1 it1 z1 => ?_
  have hnd := hm.nodup
  have ent : ∀ i (hi : i < M.length), ∃ y, y ∈ xs ∧ y.nm = M[i].1 ∧ M[i].2 = ptrV y.b ∧ findI M[i].1 xs = some y := fun i hi => by
    have h1 : look2 M[i].1 M = some M[i].2 := (look2_some hnd).2 (List.getElem_mem hi)
    rw [hlk] at h1
    cases hf : findI M[i].1 xs with
    | none => rw [hf] at h1; cases h1
    | some y =>
      rw [hf] at h1
      have := findI_mem hf
      exact ⟨y, this.1, this.2, by simpa using h1.symm, rfl⟩
  have hMl : M.length < 1000000 := by
    have h9 := List.Nodup.length_le_of_subset (l₂ := xs.map (·.nm)) hnd (fun k hk => by
      obtain ⟨p, hp, rfl⟩ := List.mem_map.1 hk
      obtain ⟨i, hi, rfl⟩ := List.getElem_of_mem hp
      obtain ⟨y, y1, y2, -, -⟩ := ent i hi
      rw [← y2]
      exact List.mem_map_of_mem y1)
    have := a.few
    simp at h9
    omega
  refine loopX1 (α := Nat × List Nat) (fun a => .int .i64 a.1) (fun a g => Ext h g ∧ MapIt str g h.size wm M a.2 ∧ a.1 ≤ a.2.length ∧ a.2.Nodup ∧ (∀ i ∈ a.2, i < M.length) ∧ (a.1 ≤ 1 ∧ (a.1 = 1 → ∃ i, ∃ hi : i < M.length, i ∈ a.2 ∧ M[i].1 = nm0))) (fun a => M.length - a.2.length) (0, []) rfl ⟨e1, it1, by simp, by simp, by simp, by simp, fun e => by simp at e⟩ ?_
  rintro ⟨n, I⟩ g ⟨e, it, hnI, hI1, hI2, hz⟩ X hX
  dsimp only at e it hnI hI1 hI2 hz hX ⊢
  have hIl : I.length ≤ M.length := by
    have := List.Nodup.length_le_of_subset (l₂ := List.range M.length) hI1 (fun i hi => List.mem_range.2 (hI2 i hi))
    simpa using this
  refine Hp_next it (fun i hi hni g2 m2 it2 => ?_) (fun hall => ?_)
  · obtain ⟨y, y1, y2, y3, y4⟩ := ent i hi
    have e2 : Ext h g2 := m2.ext_from e (fun b hb e => by have e' : b = h.size := e; omega)
    have ay := (a.im y y1).ext e2
    have ax := (a.im x hx).ext e2
    have hI1' : (I ++ [i]).Nodup := by
      rw [List.nodup_append]
      exact ⟨hI1, by simp, fun p hp q hq e => by simp at hq; subst hq; subst e; exact hni hp⟩
    have hl2 : I.length < M.length := by
      have := List.Nodup.length_le_of_subset (l₂ := List.range M.length) hI1' (fun j hj => List.mem_range.2 (by
        rcases List.mem_append.1 hj with hj | hj
        · exact hI2 j hj
        · simp at hj; omega))
      simp at this; omega
    have hin : ∀ j ∈ I ++ [i], j < M.length := fun j hj => by
      rcases List.mem_append.1 hj with hj | hj
      · exact hI2 j hj
      · simp at hj; omega
    rw [y3]
    unfold ptrV
    simp (disch := omega)
    refine JoinN.mk ?_
    rw [Hp_entry it2 hi, y3]
    unfold ptrV
    by_cases hb : y.bk = x.nm
    · simp (disch := omega) [cellOf (i := 1) ay.cells rfl, cellOf (i := 0) ax.cells rfl, hb]
      have hyn : M[i].1 = nm0 := by rw [← y2]; exact huq y y1 hb
      have hn0 : n = 0 := by
        by_cases e : n = 0
        · exact e
        · obtain ⟨j, hj, hjI, hje⟩ := hz.2 (by omega)
          have hij : j = i := by
            have hp := List.pairwise_iff_getElem.1 hnd
            rcases Nat.lt_trichotomy i j with h9 | h9 | h9
            · exact absurd (by rw [List.getElem_map, List.getElem_map, hje, hyn]) (hp i j (by simp; omega) (by simp; omega) h9)
            · exact h9.symm
            · exact absurd (by rw [List.getElem_map, List.getElem_map, hje, hyn]) (hp j i (by simp; omega) (by simp; omega) h9)
          exact absurd (hij ▸ hjI) hni
      refine hX (n + 1, I ++ [i]) _ _ (by simp) ⟨e2, it2, by simp; omega, hI1', hin, by dsimp only; omega, fun _ => ⟨i, hi, by simp, hyn⟩⟩ (by simp; omega)
    · simp (disch := omega) [cellOf (i := 1) ay.cells rfl, cellOf (i := 0) ax.cells rfl, hb]
      refine hX (n, I ++ [i]) _ _ rfl ⟨e2, it2, by simp; omega, hI1', hin, hz.1, fun e => ?_⟩ (by simp; omega)
      obtain ⟨j, hj, hjI, hje⟩ := hz.2 e
      exact ⟨j, hj, List.mem_append_left _ hjI, hje⟩
  · simp (disch := omega)
    exact H g n e (by omega) hz.1

theorem bytesEq_c {v u : Value} {l l' : List UInt8} (hv : Bytes h v l) (hu : Bytes h u l') (H : K (.bool (decide (l = l'))) h) : CallsH Tryz.prog 43 #[v, u] h K ⟨⟩ := by
  refine n43_calls ?_
  unfold n43
  rw [Hp_bytesStr (e := 5) (by kernel_rfl) (by kernel_rfl) (by kernel_rfl) hv, Hp_bytesStr (e := 5) (by kernel_rfl) (by kernel_rfl) (by kernel_rfl) hu]
  by_cases e : l = l'
  · rw [decide_eq_true e] at H
    simp (disch := omega) [e]
    exact H
  · rw [decide_eq_false e] at H
    simp (disch := omega) [e]
    exact H
/-- Without the image of a name. -/
def offI (nm : List UInt8) (xs : List Im) : List Im := xs.filter (fun y => !decide (y.nm = nm))
theorem findI_off {nm nm' : List UInt8} : ∀ {xs : List Im}, nm' ≠ nm → findI nm' (offI nm xs) = findI nm' xs
  | [], _ => rfl
  | y :: r, hne => by
    unfold offI
    by_cases e : y.nm = nm
    · rw [List.filter_cons_of_neg (by simp [e])]
      have := findI_off (xs := r) hne
      unfold offI at this
      rw [this]
      conv => rhs; unfold findI
      rw [if_neg (by rw [e]; exact hne)]
    · rw [List.filter_cons_of_pos (by simp [e])]
      have := findI_off (xs := r) hne
      unfold offI at this
      unfold findI
      rw [this]
theorem chain_off {nm : List UInt8} : ∀ {xs : List Im}, (∀ y ∈ xs, y.bk ≠ nm) → ChainI xs → ChainI (offI nm xs)
  | [], _, _ => trivial
  | y :: r, hb, hc => by
    have ih := chain_off (xs := r) (fun z hz => hb z (List.mem_cons_of_mem _ hz)) hc.2
    unfold offI at ih ⊢
    by_cases e : y.nm = nm
    · rw [List.filter_cons_of_neg (by simp [e])]
      exact ih
    · rw [List.filter_cons_of_pos (by simp [e])]
      refine ⟨hc.1.imp id ?_, ih⟩
      rintro ⟨z, hz⟩
      have := findI_off (nm := nm) (xs := r) (hb y List.mem_cons_self)
      unfold offI at this
      exact ⟨z, by rw [this]; exact hz⟩
theorem Remove_c {w wm : Nat} {xs : List Im} {x : Im} {nm : List UInt8} (a : WdAt h w wm xs) (hn : OkN nm) (en : x.nm = nm) (hx : findI nm xs = some x) (hab : ∀ y ∈ xs, y.bk ≠ nm)
    (H : ∀ h', WdAt h' w wm (offI nm xs) → Mod (· = wm) h h' → K (.int .i64 0) h') : CallsH Tryz.prog 21 #[ptrV w, str nm] h K ⟨⟩ := by
  subst en
  refine n21_calls ?_
  unfold n21
  have hxm := findI_mem hx
  refine which_c a hn fun h1 e1 => ?_
  rw [hx]
  unfold ptrV
  simp (disch := omega)
  refine above_c (a.ext e1) hxm.1 fun h2 n e2 hn2 hz => ?_
  obtain rfl : n = 0 := hz.2 hab
  have E2 := e1.trans e2
  have a2 := a.ext E2
  obtain ⟨M, hM, hl⟩ := a2.map
  simp (disch := omega) [cellOf (i := 0) a2.cells rfl]
  refine Hp_delete imKey hM fun h3 hM3 m3 => ?_
  have hwm : w ≠ wm := fun e => by
    obtain ⟨es, cl, h1, _⟩ := hM
    have := a2.cells
    rw [e, h1] at this
    cases this
  have mem : ∀ y, y ∈ offI x.nm xs → y ∈ xs ∧ y.nm ≠ x.nm := fun y hy => by
    unfold offI at hy
    have := List.mem_filter.1 hy
    exact ⟨this.1, by simpa using this.2⟩
  refine H h3 ⟨(m3.block _ (get_some_lt a2.cells) hwm).trans a2.cells, ⟨_, hM3, fun k => ?_⟩, ⟨?_, fun y hy => a.wl.ne y (mem y hy).1, chain_off hab a.wl.ch⟩, fun y hy => ?_, fun y hy z hz => a.ap y (mem y hy).1 z (mem z hz).1, fun y hy => a.wf y (mem y hy).1, fun y hy => a.nm y (mem y hy).1, Nat.lt_of_le_of_lt (List.length_filter_le _ _) a.few⟩ ((Mod.of_ext E2).trans m3 (fun _ _ e => e))
  · rw [look2_del hM.nodup, hl]
    by_cases e : k = x.nm
    · rw [if_pos e, e, findI_none.2 (fun y hy => (mem y hy).2)]; rfl
    · rw [if_neg e, findI_off e]
  · exact a.wl.nd.sublist ((List.filter_sublist).map _)
  · refine (a2.im y (mem y hy).1).mod m3 (fun b hb e => (a.wf y (mem y hy).1).2 (e ▸ hb)) (fun b arr hb _ e => ?_)
    obtain ⟨es, cl, h1, _⟩ := hM
    have e' : b = wm := e
    rw [e', h1] at hb
    cases hb
theorem cloneSn_c {v : Value} {vs : List Value} (o : OwnT snT 3 h v vs) (hl : vs.length ≤ 1000000) (hone : ∀ u ∈ vs, one u = true)
    (H : ∀ h' v', OwnT snT 3 h' v' vs → Ext h h' → (∀ b, blkV v' = some b → h.size ≤ b) → K v' h') : CallsH Tryz.prog 46 #[v] h K ⟨⟩ := by
  refine n46_calls ?_
  unfold n46
  rcases o with ⟨rfl, rfl⟩ | ⟨b, n, c, rest, rfl, h1, h2, h3, h4⟩
  · simp (disch := omega)
    exact H h _ .nil (.refl _) (fun b hb => by cases hb)
  · simp (disch := omega)
    refine (⟨_, rfl⟩ : ∃ f, f = h.push (.cells #[] snT)).elim fun g eg => ?_
    have e0 : Ext h g := by rw [eg]; exact (by repeat' (first | (with_reducible exact Ext.refl _) | (with_reducible assumption) | (with_reducible refine push_ext ?_) | (with_reducible refine hset_ext ?_ ?_) | (with_reducible refine Ext.trans ?_ (by assumption)) | omega | (simp; done) | (simp; omega) | (refine Ext.size ?_) | (refine Nat.le_succ_of_le (Ext.size ?_))))
    have hq : g[h.size]? = some (.cells #[] snT) := by rw [eg]; exact get_pushed rfl
    rw [show h.push (.cells #[] 78) = g from eg.symm]
    clear eg
    have ho : OwnT snT 3 g (.slice (some ⟨h.size, 0, none⟩) 0 0) [] := .inr ⟨h.size, 0, 0, [], rfl, rfl, Nat.le_refl _, by simpa using hq, rfl⟩
    have hs : Src 3 g (.slice (some ⟨b, 0, none⟩) n c) n vs := .inr (.inl ⟨_, _, rfl, h1, (OwnT.own (.inr ⟨b, n, c, rest, rfl, h1, h2, (e0.block _ (get_some_lt h3)).trans h3, h4⟩)).seg.2.2⟩)
    refine Hp_appendT (e := snT) (s := 3) (by_ := 32) (n := 0) (k := n) (news := vs) (by kernel_rfl) (by kernel_rfl) ho rfl (by omega) hs hone (by omega) (by omega) fun v' h5 hO hM hF hB => ?_
    exact H h5 v' (by simpa using hO) (hM.ext_from e0 (fun b' hb' e => by have e' : h.size = b' := Option.some.inj e; omega)) (fun b' hb' => (hF b' hb').elim (fun e => by have e' : h.size = b' := Option.some.inj e; omega) (fun e => by have := e0.size; omega))
theorem cloneBm_c {v : Value} {vs : List Value} (o : OwnT bmT 4 h v vs) (hl : vs.length ≤ 1000000) (hone : ∀ u ∈ vs, one u = true)
    (H : ∀ h' v', OwnT bmT 4 h' v' vs → Ext h h' → (∀ b, blkV v' = some b → h.size ≤ b) → K v' h') : CallsH Tryz.prog 47 #[v] h K ⟨⟩ := by
  refine n47_calls ?_
  unfold n47
  rcases o with ⟨rfl, rfl⟩ | ⟨b, n, c, rest, rfl, h1, h2, h3, h4⟩
  · simp (disch := omega)
    exact H h _ .nil (.refl _) (fun b hb => by cases hb)
  · simp (disch := omega)
    refine (⟨_, rfl⟩ : ∃ f, f = h.push (.cells #[] bmT)).elim fun g eg => ?_
    have e0 : Ext h g := by rw [eg]; exact (by repeat' (first | (with_reducible exact Ext.refl _) | (with_reducible assumption) | (with_reducible refine push_ext ?_) | (with_reducible refine hset_ext ?_ ?_) | (with_reducible refine Ext.trans ?_ (by assumption)) | omega | (simp; done) | (simp; omega) | (refine Ext.size ?_) | (refine Nat.le_succ_of_le (Ext.size ?_))))
    have hq : g[h.size]? = some (.cells #[] bmT) := by rw [eg]; exact get_pushed rfl
    rw [show h.push (.cells #[] 75) = g from eg.symm]
    clear eg
    have ho : OwnT bmT 4 g (.slice (some ⟨h.size, 0, none⟩) 0 0) [] := .inr ⟨h.size, 0, 0, [], rfl, rfl, Nat.le_refl _, by simpa using hq, rfl⟩
    have hs : Src 4 g (.slice (some ⟨b, 0, none⟩) n c) n vs := .inr (.inl ⟨_, _, rfl, h1, (OwnT.own (.inr ⟨b, n, c, rest, rfl, h1, h2, (e0.block _ (get_some_lt h3)).trans h3, h4⟩)).seg.2.2⟩)
    refine Hp_appendT (e := bmT) (s := 4) (by_ := 40) (n := 0) (k := n) (news := vs) (by kernel_rfl) (by kernel_rfl) ho rfl (by omega) hs hone (by omega) (by omega) fun v' h5 hO hM hF hB => ?_
    exact H h5 v' (by simpa using hO) (hM.ext_from e0 (fun b' hb' e => by have e' : h.size = b' := Option.some.inj e; omega)) (fun b' hb' => (hF b' hb').elim (fun e => by have e' : h.size = b' := Option.some.inj e; omega) (fun e => by have := e0.size; omega))
end Go.Proofs.YtoonjlhfgjnnmaaGreat
set_option linter.unusedSimpArgs false
set_option linter.unusedVariables false
namespace Go.Proofs.YtoonjlhfgjnnmaaGreat
open Go.Vc
variable {K : Value → Heap → Prop} {h : Heap}

theorem findI_map {φ : Im → Im} {nm : List UInt8} : ∀ {xs : List Im}, (∀ x ∈ xs, (φ x).nm = x.nm) → findI nm (xs.map φ) = (findI nm xs).map φ
  | [], _ => rfl
  | x :: r, h => by
    rw [List.map_cons]
    unfold findI
    rw [h x List.mem_cons_self]
    by_cases e : nm = x.nm
    · rw [if_pos e, if_pos e]; rfl
    · rw [if_neg e, if_neg e, findI_map fun y hy => h y (List.mem_cons_of_mem _ hy)]
theorem chain_map {φ : Im → Im} : ∀ {xs : List Im}, (∀ x ∈ xs, (φ x).nm = x.nm ∧ (φ x).bk = x.bk) → ChainI xs → ChainI (xs.map φ)
  | [], _, _ => trivial
  | x :: r, h, hc => by
    rw [List.map_cons]
    have hr := fun y hy => h y (List.mem_cons_of_mem _ hy)
    refine ⟨?_, chain_map hr hc.2⟩
    rw [(h x List.mem_cons_self).2]
    refine hc.1.imp id ?_
    rintro ⟨y, hy⟩
    exact ⟨φ y, by rw [findI_map fun y hy => (hr y hy).1, hy]; rfl⟩
theorem conts_map {φ : Im → Im} {k : Nat} : ∀ {xs : List Im} {nm : List UInt8}, (∀ x ∈ xs, Cq (φ x) x) → conts (xs.map φ) nm k = conts xs nm k
  | [], _, _ => rfl
  | x :: r, nm, h => by
    rw [List.map_cons]
    have c := h x List.mem_cons_self
    have ih : ∀ nm, conts (r.map φ) nm k = conts r nm k := fun nm => conts_map fun y hy => h y (List.mem_cons_of_mem _ hy)
    unfold conts
    rw [ih, ih, c.nm, c.n, c.bk]
    unfold Im.isOwn
    rw [c.F, c.G, c.cs]
theorem look_R {nm : List UInt8} : ∀ R : List Im, look2 nm (R.map fun x => (x.nm, ptrV x.b)) = (findI nm R).map fun x => ptrV x.b
  | [] => rfl
  | x :: R => by
    rw [List.map_cons, look2]
    unfold findI
    by_cases e : nm = x.nm
    · rw [if_pos e, if_pos e]; rfl
    · rw [if_neg e, if_neg e, look_R R]
theorem upd_new {k : List UInt8} {v : Value} : ∀ {l : List (List UInt8 × Value)}, (∀ p ∈ l, p.1 ≠ k) → upd k v l = l ++ [(k, v)]
  | [], _ => rfl
  | (b, u) :: r, h => by
    unfold upd
    rw [if_neg (fun e => h (b, u) List.mem_cons_self e.symm), upd_new fun p hp => h p (List.mem_cons_of_mem _ hp)]
    rfl
/-- An image, but where it lies. -/
structure CpOf (h0 h : Heap) (xs : List Im) (x' : Im) : Prop where
  src : ∃ x ∈ xs, ∃ b m sv bv, x' = { x with b := b, m := m, sv := sv, bv := bv }
  im : ImAt h x'
  fr : ∀ c, footI x' c → h0.size ≤ c ∨ ∃ s ∈ x'.S, c = s.m
theorem CpOf.mod {h0 g g' : Heap} {xs : List Im} {x' : Im} {S : Nat → Prop} (a : CpOf h0 g xs x') (m : Mod S g g') (h1 : ∀ b, footI x' b → ¬ S b) (h2 : ∀ b arr, g[b]? = some (.cells arr u8T) → ¬ S b) : CpOf h0 g' xs x' := ⟨a.src, a.im.mod m h1 (fun b arr hb _ => h2 b arr hb), a.fr⟩
theorem CpOf.ext {h0 g g' : Heap} {xs : List Im} {x' : Im} (a : CpOf h0 g xs x') (e : Ext g g') : CpOf h0 g' xs x' := ⟨a.src, a.im.ext e, a.fr⟩
set_option maxHeartbeats 2000000 in
theorem Copy_c {w wm : Nat} {xs : List Im} (a : WdAt h w wm xs) (hB : ∀ x ∈ xs, x.B = []) (hS : ∀ x ∈ xs, x.S = [] ∨ ∃ s, x.S = [s])
    (H : ∀ h' w' wm' (φ : Im → Im), Ext h h' → WdAt h' w' wm' (xs.map φ) → (∀ x ∈ xs, ∃ b m sv bv, φ x = { x with b := b, m := m, sv := sv, bv := bv }) → h.size ≤ w' → h.size ≤ wm' → (∀ x ∈ xs, ∀ c, footI (φ x) c → h.size ≤ c ∨ ∃ s ∈ x.S, c = s.m) → K (ptrV w') h') :
    CallsH Tryz.prog 18 #[ptrV w] h K ⟨⟩ := by
  refine n18_calls ?_
  unfold n18
  refine none_c a ?_
  simp (disch := omega)
  refine New_c fun w' wm' h1 e1 a1 fw fwm => ?_
  have aa := a.ext e1
  obtain ⟨M, hM, hl⟩ := aa.map
  unfold ptrV
  simp (disch := omega) [cellOf (i := 0) aa.cells rfl]
  refine Hp_rangeM (by kernel_rfl) hM fun h2 e2 it2 z2 => ?_
  have hnd := hM.nodup
  have ent : ∀ i (hi : i < M.length), ∃ y, y ∈ xs ∧ y.nm = M[i].1 ∧ M[i].2 = ptrV y.b ∧ findI M[i].1 xs = some y := fun i hi => by
    have h1 : look2 M[i].1 M = some M[i].2 := (look2_some hnd).2 (List.getElem_mem hi)
    rw [hl] at h1
    cases hf : findI M[i].1 xs with
    | none => rw [hf] at h1; cases h1
    | some y =>
      rw [hf] at h1
      have := findI_mem hf
      exact ⟨y, this.1, this.2, by simpa using h1.symm, rfl⟩
  have hwml := a.map.choose_spec.1.lt
  have z1 := e1.size
  have hwne : w' ≠ wm' := fun e => by
    have := a1.cells
    obtain ⟨es, cl, q1, _⟩ := a1.none
    rw [e, q1] at this
    cases this
  have hw'l := get_some_lt a1.cells
  have hwm'l := a1.none.lt
  refine loopMap0 (fun I g => ∃ R : List Im, Ext h g ∧ h1.size < g.size ∧ g[w']? = some (.cells #[.map (some wm')] wdT) ∧ MapK str g wm' (R.map fun x => (x.nm, ptrV x.b)) ∧ (∀ x' ∈ R, CpOf h g xs x' ∧ ¬ footI x' w' ∧ ¬ footI x' wm') ∧ (∀ x ∈ R, ∀ y ∈ R, x.nm ≠ y.nm → ∀ b, footI x b → ¬ footI y b) ∧ (∀ nm, (∃ x ∈ R, x.nm = nm) ↔ ∃ i, ∃ hi : i < M.length, i ∈ I ∧ M[i].1 = nm)) it2 ⟨[], e1.trans e2, by omega, (e2.block _ hw'l).trans a1.cells, a1.none.ext e2, by simp, by simp, by simp⟩ ?_
  rintro I g hI hn hlt ⟨R, eg, hgl, cw, mR, hR, hap, hnm⟩ X hX
  refine Hp_next hI (fun i hi hiI g2 m2 hI2 => ?_) (fun hall => ?_)
  · obtain ⟨x, hx, exn, exb, fx⟩ := ent i hi
    simp (disch := omega)
    rw [Hp_entry hI2 hi, exb]
    unfold ptrV
    have mit : ∀ b, b < h.size → ¬ b = h1.size := fun b hb => by omega
    have e3 : Ext h g2 := m2.ext_from eg mit
    have ax := (a.im x hx).ext e3
    have cc := ax.cells
    have hxl := get_some_lt (a.im x hx).cells
    have zz := e3.size
    have hg2 := m2.size
    have hxb : ¬ x.b = g2.size := by omega
    have hgx : ¬ g2.size = x.b := by omega
    obtain ⟨sa, sn, sc, hsv, hsn', -, -⟩ := ax.sn.form (by omega)
    obtain ⟨va, vn, vc, hbv, hvn', -, -⟩ := ax.bm.form (by omega)
    have hvn0 : vn = 0 := by
      rw [hB x hx] at hvn'
      simp at hvn'
      omega
    subst hvn0
    rw [hsv, hbv] at cc
    obtain ⟨N, hN⟩ : ∃ N, N = x.n * 512 := ⟨_, rfl⟩
    rw [← hN] at cc
    have c0 := cellOf (i := 0) cc rfl
    have c1 := cellOf (i := 1) cc rfl
    have c2 := cellOf (i := 2) cc rfl
    have c3 := cellOf (i := 3) cc rfl
    have c4 := cellOf (i := 4) cc rfl
    have c5 := cellOf (i := 5) cc rfl
    have c6 := cellOf (i := 6) cc rfl
    simp (disch := omega) [c0, c1, c2, c3, c4, c5, c6, hxb, hgx]
    refine (⟨_, rfl⟩ : ∃ f, f = hset (hset (hset (hset (hset (hset (hset (Array.push g2 (.cells #[str [], str [], .int .i64 0, .int .i64 0, .map none, .slice none 0 0, .slice none 0 0] imT)) ⟨g2.size, 0, none⟩ (str x.nm)) ⟨g2.size, 1, none⟩ (str x.bk)) ⟨g2.size, 2, none⟩ (.int .i64 N)) ⟨g2.size, 3, none⟩ (.int .i64 x.bits)) ⟨g2.size, 4, none⟩ (.map (some x.m))) ⟨g2.size, 5, none⟩ (.slice sa sn sc)) ⟨g2.size, 6, none⟩ (.slice va 0 vc)).elim fun G0 eG => ?_
    have e4 : Ext g2 G0 := by rw [eG]; exact (by repeat' (first | (with_reducible exact Ext.refl _) | (with_reducible assumption) | (with_reducible refine push_ext ?_) | (with_reducible refine hset_ext ?_ ?_) | (with_reducible refine Ext.trans ?_ (by assumption)) | omega | (simp; done) | (simp; omega) | (refine Ext.size ?_) | (refine Nat.le_succ_of_le (Ext.size ?_))))
    have q0 : G0[g2.size]? = some (.cells #[str x.nm, str x.bk, .int .i64 N, .int .i64 x.bits, .map (some x.m), .slice sa sn sc, .slice va 0 vc] imT) := by
      rw [eG]
      exact obj_set (i := 6) (obj_set (i := 5) (obj_set (i := 4) (obj_set (i := 3) (obj_set (i := 2) (obj_set (i := 1) (obj_set (i := 0) (get_pushed rfl)))))))
    rw [show hset (hset (hset (hset (hset (hset (hset (Array.push g2 (.cells #[str [], str [], .int .i64 0, .int .i64 0, .map none, .slice none 0 0, .slice none 0 0] 72)) ⟨g2.size, 0, none⟩ (str x.nm)) ⟨g2.size, 1, none⟩ (str x.bk)) ⟨g2.size, 2, none⟩ (.int .i64 N)) ⟨g2.size, 3, none⟩ (.int .i64 x.bits)) ⟨g2.size, 4, none⟩ (.map (some x.m))) ⟨g2.size, 5, none⟩ (.slice sa sn sc)) ⟨g2.size, 6, none⟩ (.slice va 0 vc) = G0 from eG.symm]
    clear eG
    have E4 := e3.trans e4
    have ax4 := ax.ext e4
    have hPl := get_some_lt q0
    -- its clusters
    refine cloneM_c ax4.cl.map fun G1 m1 mp1 e5 f5 => ?_
    have q1 := (e5.block _ hPl).trans q0
    have k4 := cellOf (i := 4) q1 rfl
    have fz4 := frzOf (i := 4) q1
    have E5 := E4.trans e5
    have cc5 := (a.ext E5).im x hx |>.cells
    rw [hsv, hbv, ← hN] at cc5
    have d5 := cellOf (i := 5) cc5 rfl
    simp (disch := omega) [k4, fz4, d5, hgx, hxb]
    have q2 := obj_set (i := 4) (v := .map (some m1)) q1
    refine (⟨_, rfl⟩ : ∃ f, f = hset G1 ⟨g2.size, 4, none⟩ (.map (some m1))).elim fun G2 eG => ?_
    rw [← eG] at q2 ⊢
    have M2 : Mod (· = g2.size) G1 G2 := by rw [eG]; exact Mod.set _ ⟨g2.size, 4, none⟩ _
    clear eG
    have e6 : Ext h G2 := M2.ext_from E5 (fun b hb e => by have e' : b = g2.size := e; omega)
    -- its snapshots
    have osn := ((a.ext e6).im x hx).sn
    rw [hsv] at osn
    refine cloneSn_c osn (by rcases hS x hx with h | ⟨s, h⟩ <;> rw [h] <;> simp [snC]) (fun u hu => by rcases hS x hx with h | ⟨s, h⟩ <;> rw [h] at hu <;> simp [snC] at hu; rcases hu with rfl | rfl | rfl <;> rfl) fun G3 sv1 o3 e7 f7 => ?_
    have hG1 := e5.size
    have hG2 := M2.size
    have q3 := (e7.block _ (by omega)).trans q2
    have k5 := cellOf (i := 5) q3 rfl
    have fz5 := frzOf (i := 5) q3
    obtain ⟨ta, tn, tc, hsv1, -, -, -⟩ := o3.form (by omega)
    have E7 := e6.trans e7
    have cc7 := (a.ext E7).im x hx |>.cells
    rw [hsv, hbv, ← hN] at cc7
    have d6 := cellOf (i := 6) cc7 rfl
    rw [hsv1]
    simp (disch := omega) [k5, fz5, d6, hgx, hxb]
    rw [← hsv1]
    have q4 := obj_set (i := 5) (v := sv1) q3
    refine (⟨_, rfl⟩ : ∃ f, f = hset G3 ⟨g2.size, 5, none⟩ sv1).elim fun G4 eG => ?_
    rw [← eG] at q4 ⊢
    have M4 : Mod (· = g2.size) G3 G4 := by rw [eG]; exact Mod.set _ ⟨g2.size, 5, none⟩ _
    clear eG
    have hsz3 := e7.size
    have hsz4 := M4.size
    have e8 : Ext h G4 := M4.ext_from E7 (fun b hb e => by have e' : b = g2.size := e; omega)
    -- its bitmaps
    have obm := ((a.ext e8).im x hx).bm
    rw [hbv, hB x hx] at obm
    refine cloneBm_c obm (by simp) (fun u hu => by simp at hu) fun G5 bv1 o5 e9 f9 => ?_
    have hsz5 := e9.size
    have q5 := (e9.block _ (get_some_lt q4)).trans q4
    have k6 := cellOf (i := 6) q5 rfl
    have fz6 := frzOf (i := 6) q5
    obtain ⟨ua, un, uc, hbv1, hun, -, -⟩ := o5.form (by omega)
    obtain rfl : un = 0 := by simp at hun; omega
    rw [hbv1]
    simp (disch := omega) [k6, fz6]
    rw [← hbv1]
    have q6 := obj_set (i := 6) (v := bv1) q5
    refine (⟨_, rfl⟩ : ∃ f, f = hset G5 ⟨g2.size, 6, none⟩ bv1).elim fun G6 eG => ?_
    rw [← eG] at q6 ⊢
    have M6 : Mod (· = g2.size) G5 G6 := by rw [eG]; exact Mod.set _ ⟨g2.size, 6, none⟩ _
    clear eG
    have hsz6 := M6.size
    have E9 := e8.trans e9
    have E10 : Ext h G6 := M6.ext_from E9 (fun b hb e => by have e' : b = g2.size := e; omega)
    have gG6 : Ext g2 G6 := M6.ext_from ((M4.ext_from ((M2.ext_from (e4.trans e5) (fun b hb e => by have e' : b = g2.size := e; omega)).trans e7) (fun b hb e => by have e' : b = g2.size := e; omega)).trans e9) (fun b hb e => by have e' : b = g2.size := e; omega)
    refine loop_once fun X1 => ?_
    have gm : Mod (· = h1.size) g G6 := m2.extIn gG6
    have cw6 := (gm.block _ (get_some_lt cw) (by omega)).trans cw
    have mR6 := mR.mod gm (by omega)
    simp (disch := omega) [cellOf (i := 0) cw6 rfl]
    refine Hp_mapUpdate imKey mR6 fun G7 mR7 m7 => ?_
    have hnew : ∀ p ∈ R.map (fun x => (x.nm, ptrV x.b)), p.1 ≠ M[i].1 := fun p hp e => by
      obtain ⟨r, hr, rfl⟩ := List.mem_map.1 hp
      obtain ⟨j, hj, hjI, hje⟩ := (hnm r.nm).1 ⟨r, hr, rfl⟩
      have e' : r.nm = M[i].1 := e
      rw [e'] at hje
      have hij : j = i := by
        have hpw := List.pairwise_iff_getElem.1 hnd
        rcases Nat.lt_trichotomy i j with h9 | h9 | h9
        · exact absurd (by rw [List.getElem_map, List.getElem_map, hje]) (hpw i j (by simp; omega) (by simp; omega) h9)
        · exact h9.symm
        · exact absurd (by rw [List.getElem_map, List.getElem_map, hje]) (hpw j i (by simp; omega) (by simp; omega) h9)
      exact hiI (hij ▸ hjI)
    obtain ⟨x', hx'⟩ : ∃ x' : Im, x' = { x with b := g2.size, m := m1, sv := sv1, bv := bv1 } := ⟨_, rfl⟩
    have hR7 : MapK str G7 wm' ((R ++ [x']).map fun x => (x.nm, ptrV x.b)) := by
      rw [upd_new hnew] at mR7
      rw [List.map_append, hx']
      show MapK str G7 wm' (_ ++ [(x.nm, ptrV g2.size)])
      rw [exn]
      exact mR7
    have E11 : Ext h G7 := m7.ext_from E10 (fun b hb e => by have e' : b = wm' := e; omega)
    have T57 : Mod (fun b => b = g2.size ∨ b = wm') G5 G7 := (M6.mono (fun _ _ e => .inl e)).trans m7 (fun _ _ e => .inr e)
    have T37 : Mod (fun b => b = g2.size ∨ b = wm') G3 G7 := ((M4.mono (T := fun b => b = g2.size ∨ b = wm') (fun _ _ e => .inl e)).extIn e9).trans T57 (fun _ _ e => e)
    have T17 : Mod (fun b => b = g2.size ∨ b = wm') G1 G7 := ((M2.mono (T := fun b => b = g2.size ∨ b = wm') (fun _ _ e => .inl e)).extIn e7).trans T37 (fun _ _ e => e)
    have T67 : Mod (fun b => b = g2.size ∨ b = wm') G6 G7 := m7.mono (fun _ _ e => .inr e)
    have hwmg : wm' < g2.size := by have := m2.size; omega
    have q7 := (m7.block _ (get_some_lt q6) (by omega)).trans q6
    have axh := a.im x hx
    have ax11 := axh.ext E11
    have hm1 : g2.size < m1 := by have := e4.size; omega
    have ix : ImAt G7 x' := by
      rw [hx']
      refine ⟨?_, ⟨mp1.mod T17 (by omega), ax11.cl.byt, ax11.cl.out⟩, ax11.n, ax11.bits, ax11.cs, ?_, ax11.snc, ?_, fun b hb => ?_, ?_, ?_, ax11.zlt⟩
      · show G7[g2.size]? = some (.cells #[str x.nm, str x.bk, .int .i64 ((x.n * 512 : Nat) : Int), .int .i64 x.bits, .map (some m1), sv1, bv1] imT)
        rw [q7, hN]; rfl
      · exact o3.mod T37 (fun b hb e => by have := f7 b hb; omega)
      · show OwnT bmT 4 G7 bv1 (x.B.flatMap bmC)
        rw [hB x hx]
        exact o5.mod T57 (fun b hb e => by have := f9 b hb; omega)
      · have hb' : b ∈ x.B := hb
        rw [hB x hx] at hb'
        cases hb'
      · show ¬ m1 = g2.size
        omega
      · have hbd := axh.bnd
        show (m1 :: (x.S.map (·.m) ++ x.B.map (·.m))).Nodup
        rw [List.nodup_cons] at hbd ⊢
        refine ⟨fun hm => ?_, hbd.2⟩
        rcases List.mem_append.1 hm with hm | hm
        · obtain ⟨s, hs, e⟩ := List.mem_map.1 hm
          have := (axh.snc s hs).map.lt
          omega
        · rw [hB x hx] at hm
          cases hm
    have fx' : ∀ c, footI x' c → g2.size ≤ c ∨ ∃ s ∈ x.S, c = s.m := fun c hc => by
      rw [hx'] at hc
      rcases hc with e | e | ⟨s, hs, e⟩ | ⟨y, hy, e⟩ | e | e
      · exact .inl (Nat.le_of_eq e.symm)
      · have e' : c = m1 := e
        exact .inl (by omega)
      · exact .inr ⟨s, hs, e⟩
      · have hy' : y ∈ x.B := hy
        rw [hB x hx] at hy'
        cases hy'
      · exact .inl (by have := f7 c e; omega)
      · exact .inl (by have := f9 c e; omega)
    have sml : ∀ s ∈ x.S, s.m < h.size := fun s hs => (axh.snc s hs).map.lt
    have gT : Mod (fun b => b = h1.size ∨ b = wm') g G7 := (gm.mono (fun _ _ e => .inl e)).trans m7 (fun _ _ e => .inr e)
    have u8no : ∀ b arr, g[b]? = some (.cells arr u8T) → ¬ (b = h1.size ∨ b = wm') := fun b arr hb e => by
      rcases e with e | e
      · obtain ⟨es, cl, m1, -, -, -, m6, -, -⟩ := hI
        rw [e, m6] at hb
        cases hb
      · obtain ⟨es, cl, q1, _⟩ := mR
        rw [e, q1] at hb
        cases hb
    have itno : ∀ r ∈ R, ¬ footI r h1.size := fun r hr e => by
      obtain ⟨es, cl, m1, -, -, -, m6, -, -⟩ := hI
      have ir := (hR r hr).1.im
      rcases e with e | e | ⟨s, hs, e⟩ | ⟨y, hy, e⟩ | e | e
      · have := ir.cells; rw [← e, m6] at this; cases this
      · obtain ⟨es, cl, q1, _⟩ := ir.cl.map; rw [← e, m6] at q1; cases q1
      · obtain ⟨es, cl, q1, _⟩ := (ir.snc s hs).map; rw [← e, m6] at q1; cases q1
      · obtain ⟨es, cl, q1, _⟩ := ir.bmd y hy; rw [← e, m6] at q1; cases q1
      · obtain ⟨arr, ha⟩ := ir.sn.tag e; rw [m6] at ha; cases ha
      · obtain ⟨arr, ha⟩ := ir.bm.tag e; rw [m6] at ha; cases ha
    refine hX i _ hiI hi ((hI2.ext gG6).mod m7 (by omega) (by omega)) ⟨R ++ [x'], E11, by have := m7.size; have := gG6.size; omega, (m7.block _ (get_some_lt cw6) (by omega)).trans cw6, hR7, fun r hr => ?_, fun r hr r2 hr2 hne b hb hb2 => ?_, fun nm => ?_⟩
    · rcases List.mem_append.1 hr with hr | hr
      · obtain ⟨p1, p2, p3⟩ := hR r hr
        exact ⟨p1.mod gT (fun b hb e => e.elim (fun e => itno r hr (e ▸ hb)) (fun e => p3 (e ▸ hb))) u8no, p2, p3⟩
      · obtain rfl : r = x' := by simpa using hr
        refine ⟨⟨⟨x, hx, _, _, _, _, hx'⟩, ix, fun c hc => (fx' c hc).imp (fun e => by omega) (fun ⟨s, hs, e⟩ => ⟨s, by rw [hx']; exact hs, e⟩)⟩, fun hf => ?_, fun hf => ?_⟩
        · rcases fx' _ hf with e | ⟨s, hs, e⟩
          · omega
          · have := sml s hs; omega
        · rcases fx' _ hf with e | ⟨s, hs, e⟩
          · omega
          · have := sml s hs; omega
    · have old : ∀ r ∈ R, r.nm ≠ x'.nm → ∀ b, footI r b → ¬ footI x' b := fun r hr hne b hb hb2 => by
        obtain ⟨p1, p2, p3⟩ := hR r hr
        obtain ⟨x0, hx0, b0, m0, sv0, bv0, hr0⟩ := p1.src
        have hbl := p1.im.lt hb
        rcases fx' b hb2 with e | ⟨s, hs, e⟩
        · have := m2.size; omega
        · rcases p1.fr b hb with e2 | ⟨s2, hs2, e2⟩
          · have := sml s hs; omega
          · have hs2' : s2 ∈ x0.S := by rw [hr0] at hs2; exact hs2
            have hn0 : x0.nm ≠ x.nm := by
              rw [hr0, hx'] at hne
              exact hne
            exact a.ap x0 hx0 x hx hn0 b (.inr (.inr (.inl ⟨s2, hs2', e2⟩))) (.inr (.inr (.inl ⟨s, hs, e⟩)))
      rcases List.mem_append.1 hr with hr' | hr'
      · rcases List.mem_append.1 hr2 with hr2' | hr2'
        · exact hap r hr' r2 hr2' hne b hb hb2
        · have e2 : r2 = x' := by simpa using hr2'
          rw [e2] at hne hb2
          exact old r hr' hne b hb hb2
      · have e1 : r = x' := by simpa using hr'
        rw [e1] at hne hb
        rcases List.mem_append.1 hr2 with hr2' | hr2'
        · exact old r2 hr2' (fun e => hne e.symm) b hb2 hb
        · have e2 : r2 = x' := by simpa using hr2'
          rw [e2] at hne
          exact hne rfl
    · have xn : x'.nm = M[i].1 := by rw [hx']; exact exn
      constructor
      · rintro ⟨r, hr, rfl⟩
        rcases List.mem_append.1 hr with hr | hr
        · obtain ⟨j, hj, hjI, e⟩ := (hnm r.nm).1 ⟨r, hr, rfl⟩
          exact ⟨j, hj, List.mem_append_left _ hjI, e⟩
        · obtain rfl : r = x' := by simpa using hr
          exact ⟨i, hi, by simp, xn.symm⟩
      · rintro ⟨j, hj, hjI, e⟩
        rcases List.mem_append.1 hjI with hjI | hjI
        · obtain ⟨r, hr, e2⟩ := (hnm nm).2 ⟨j, hj, hjI, e⟩
          exact ⟨r, List.mem_append_left _ hr, e2⟩
        · obtain rfl : j = i := by simpa using hjI
          exact ⟨x', by simp, xn.trans e⟩
  · simp (disch := omega)
    have hall' : ∀ x ∈ xs, ∃ r ∈ R, r.nm = x.nm := fun x hx => by
      have h1 := hl x.nm
      rw [findI_self a.wl.nd hx] at h1
      have hmem := (look2_some hnd).1 (show look2 x.nm M = some (ptrV x.b) from h1)
      obtain ⟨i, hi, hie⟩ := List.getElem_of_mem hmem
      exact (hnm x.nm).2 ⟨i, hi, hall i hi, by rw [hie]⟩
    have Rnd : ∀ r ∈ R, ∀ x ∈ xs, r.nm = x.nm → ∃ b m sv bv, r = { x with b := b, m := m, sv := sv, bv := bv } := fun r hr x hx e => by
      obtain ⟨x0, hx0, b, m, sv, bv, hr0⟩ := (hR r hr).1.src
      have hn0 : x0.nm = x.nm := by rw [hr0] at e; exact e
      have : x0 = x := findI_uniq a.wl.nd (findI_self a.wl.nd hx) hx0 hn0
      exact ⟨b, m, sv, bv, by rw [hr0, this]⟩
    obtain ⟨φ, hφ⟩ : ∃ φ : Im → Im, φ = fun x => (findI x.nm R).getD x := ⟨_, rfl⟩
    have fφ : ∀ x ∈ xs, findI x.nm R = some (φ x) ∧ φ x ∈ R ∧ (φ x).nm = x.nm := fun x hx => by
      obtain ⟨r, hr, e⟩ := hall' x hx
      cases hf : findI x.nm R with
      | none => exact absurd e (findI_none.1 hf r hr)
      | some r2 =>
        have h2 : φ x = r2 := by rw [hφ]; show (findI x.nm R).getD x = r2; rw [hf]; rfl
        have := findI_mem hf
        rw [h2]
        exact ⟨rfl, this⟩
    have pφ : ∀ x ∈ xs, ∃ b m sv bv, φ x = { x with b := b, m := m, sv := sv, bv := bv } := fun x hx => Rnd _ (fφ x hx).2.1 x hx (fφ x hx).2.2
    have bφ : ∀ x ∈ xs, (φ x).nm = x.nm ∧ (φ x).bk = x.bk := fun x hx => by
      obtain ⟨b, m, sv, bv, e⟩ := pφ x hx
      rw [e]; exact ⟨rfl, rfl⟩
    have nms : (xs.map φ).map (·.nm) = xs.map (·.nm) := by
      rw [List.map_map]
      apply List.map_congr_left
      intro x hx
      exact (bφ x hx).1
    refine H g w' wm' φ eg ⟨cw, ⟨_, mR, fun nm => ?_⟩, ⟨?_, fun y hy => ?_, chain_map bφ a.wl.ch⟩, fun y hy => ?_, fun y hy z hz hne => ?_, fun y hy => ?_, fun y hy => ?_, by rw [List.length_map]; exact a.few⟩ pφ (by omega) (by omega) (fun x hx c hc => ?_)
    · rw [look_R, findI_map fun x hx => (bφ x hx).1]
      cases hf : findI nm xs with
      | none =>
        have : findI nm R = none := findI_none.2 fun r hr e => by
          obtain ⟨x0, hx0, b, m, sv, bv, hr0⟩ := (hR r hr).1.src
          exact findI_none.1 hf x0 hx0 (by rw [← e, hr0])
        rw [this]; rfl
      | some x =>
        have hx := findI_mem hf
        have := (fφ x hx.1).1
        rw [hx.2] at this
        rw [this]; rfl
    · rw [nms]; exact a.wl.nd
    · obtain ⟨x, hx, rfl⟩ := List.mem_map.1 hy
      rw [(bφ x hx).1]; exact a.wl.ne x hx
    · obtain ⟨x, hx, rfl⟩ := List.mem_map.1 hy
      exact (hR _ (fφ x hx).2.1).1.im
    · obtain ⟨x, hx, rfl⟩ := List.mem_map.1 hy
      obtain ⟨x2, hx2, rfl⟩ := List.mem_map.1 hz
      exact hap _ (fφ x hx).2.1 _ (fφ x2 hx2).2.1 hne
    · obtain ⟨x, hx, rfl⟩ := List.mem_map.1 hy
      exact (hR _ (fφ x hx).2.1).2
    · obtain ⟨x, hx, rfl⟩ := List.mem_map.1 hy
      rw [(bφ x hx).1]; exact a.nm x hx
    · rcases (hR _ (fφ x hx).2.1).1.fr c hc with e | ⟨s, hs, e⟩
      · exact .inl e
      · obtain ⟨b, m, sv, bv, e2⟩ := pφ x hx
        rw [e2] at hs
        exact .inr ⟨s, hs, e⟩
end Go.Proofs.YtoonjlhfgjnnmaaGreat
set_option linter.unusedSimpArgs false
set_option linter.unusedVariables false
namespace Go.Proofs.YtoonjlhfgjnnmaaGreat
open Go.Vc
variable {K : Value → Heap → Prop} {h : Heap}

theorem ImAt.put {x : Im} {c : Nat} {v : Value} {d : List UInt8} {h' : Heap} (ax : ImAt h x) (m : Mod (· = x.m) h h') (hm : MapK ik h' x.m (upd (c : Int) v x.F)) (ho : OwnT u8T 1 h' v (d.map byteV)) (hd : d.length = x.cs * 512) (hz : ∀ b, blkV v = some b → b ∉ x.Z) : ImAt h' (x.put c v d) := by
  have hmm : ∀ b arr t, h[b]? = some (.cells arr t) → b ≠ x.m := fun b arr t hb e => by
    obtain ⟨es, cl, h1, _⟩ := ax.cl.map
    rw [e, h1] at hb
    cases hb
  have hnd := ax.bnd
  simp only [List.nodup_cons] at hnd
  refine ⟨(m.block _ (get_some_lt ax.cells) (fun e => ax.mne e.symm)).trans ax.cells, ⟨hm, fun i u hu => ?_, fun i u b hu hb => ?_⟩, ax.n, ax.bits, ax.cs, ax.sn.mod m (fun b hb e => ?_), fun s hs => (ax.snc s hs).mod m (fun e => ?_) (fun b arr hb _ e => hmm b arr _ hb e), ax.bm.mod m (fun b hb e => ?_), fun b hb => (ax.bmd b hb).mod m (fun e => hnd.1 (List.mem_append_right _ (by rw [← e]; exact List.mem_map_of_mem hb))), ax.mne, ax.bnd, fun b hb => Nat.lt_of_lt_of_le (ax.zlt b hb) m.size⟩
  · have hu2 : look2 i (upd (c : Int) v x.F) = some u := hu
    rw [look2_upd] at hu2
    show OwnT u8T 1 h' u (((x.put c v d).G i).map byteV) ∧ ((x.put c v d).G i).length = x.cs * 512
    unfold Im.put
    dsimp only
    by_cases e : i = (c : Int)
    · rw [if_pos e] at hu2 ⊢
      cases hu2
      exact ⟨ho, hd⟩
    · rw [if_neg e] at hu2 ⊢
      obtain ⟨o1, o2⟩ := ax.cl.byt i u hu2
      exact ⟨o1.mod m (fun b hb e => by obtain ⟨arr, ha⟩ := o1.tag hb; exact hmm b arr _ ha e), o2⟩
  · have hu2 : look2 i (upd (c : Int) v x.F) = some u := hu
    rw [look2_upd] at hu2
    by_cases e : i = (c : Int)
    · rw [if_pos e] at hu2
      cases hu2
      exact hz b hb
    · rw [if_neg e] at hu2
      exact ax.cl.out i u b hu2 hb
  · obtain ⟨arr, ha⟩ := ax.sn.tag hb
    exact hmm b arr _ ha e
  · exact hnd.1 (List.mem_append_left _ (by rw [← e]; exact List.mem_map_of_mem hs))
  · obtain ⟨arr, ha⟩ := ax.bm.tag hb
    exact hmm b arr _ ha e
/-- Another image beside. -/
theorem WdAt.consI {w wm z : Nat} {xs : List Im} {y : Im} {M : List (List UInt8 × Value)} {h' : Heap} (a : WdAt h w wm xs) (hn : OkN y.nm) (hnew : findI y.nm xs = Option.none) (hbk : y.bk = [] ∨ ∃ u, findI y.bk xs = some u) (hfew : xs.length < 100) (iy : ImAt h y) (hf : ∀ c, footI y c → z ≤ c)
    (hz : ∀ x ∈ xs, ∀ c, footI x c → c < z) (hw : w < z) (hwm : wm < z) (hl : ∀ nm, look2 nm M = (findI nm xs).map (fun x => ptrV x.b)) (hM0 : MapK str h wm M) (hM : MapK str h' wm (Vc.upd y.nm (ptrV y.b) M)) (md : Mod (· = wm) h h') : WdAt h' w wm (y :: xs) := by
  have hwl := get_some_lt a.cells
  have hwne : w ≠ wm := fun e => by
    obtain ⟨es, cl, h1, _⟩ := hM0
    have := a.cells
    rw [e, h1] at this
    cases this
  have u8 : ∀ b arr, h[b]? = some (.cells arr u8T) → ¬ b = wm := fun b arr hc e => by
    obtain ⟨es, cl, h1, _⟩ := hM0
    rw [e, h1] at hc
    cases hc
  refine ⟨(md.block _ hwl hwne).trans a.cells, ⟨_, hM, fun k => ?_⟩, ⟨?_, fun x hx => ?_, hbk, a.wl.ch⟩, fun x hx => ?_, fun x hx u hu hne c hc hc2 => ?_, fun x hx => ?_, fun x hx => ?_, by simp; omega⟩
  · rw [look2_upd, hl]
    show _ = Option.map _ (if k = y.nm then some _ else findI k xs)
    by_cases e : k = y.nm
    · rw [if_pos e, if_pos e]; rfl
    · rw [if_neg e, if_neg e]
  · simp only [List.map_cons, List.nodup_cons]
    refine ⟨fun hmem => ?_, a.wl.nd⟩
    obtain ⟨u, hu, e⟩ := List.mem_map.1 hmem
    exact findI_none.1 hnew u hu e
  · rcases List.mem_cons.1 hx with rfl | hx
    · exact hn.ne
    · exact a.wl.ne x hx
  · rcases List.mem_cons.1 hx with rfl | hx
    · exact iy.mod md (fun c hc e => by have := hf c hc; have e' : c = wm := e; omega) (fun b arr hb _ => u8 b arr hb)
    · exact (a.im x hx).mod md (fun c hc e => (a.wf x hx).2 (e ▸ hc)) (fun b arr hb _ => u8 b arr hb)
  · rcases List.mem_cons.1 hx with e1 | hx1
    · rw [e1] at hc hne
      rcases List.mem_cons.1 hu with e2 | hu1
      · rw [e2] at hne; exact hne rfl
      · have := hf c hc
        have := hz u hu1 c hc2
        omega
    · rcases List.mem_cons.1 hu with e2 | hu1
      · rw [e2] at hc2
        have := hf c hc2
        have := hz x hx1 c hc
        omega
      · exact a.ap x hx1 u hu1 hne c hc hc2
  · rcases List.mem_cons.1 hx with rfl | hx
    · exact ⟨fun h1 => by have := hf _ h1; omega, fun h1 => by have := hf _ h1; omega⟩
    · exact a.wf x hx
  · rcases List.mem_cons.1 hx with rfl | hx
    · exact hn.le
    · exact a.nm x hx
set_option maxHeartbeats 2000000 in
theorem Convert_c {w wm bits : Nat} {xs : List Im} {x : Im} {nm to : List UInt8} (a : WdAt h w wm xs) (hn : OkN nm) (en : x.nm = nm) (hx : findI nm xs = some x) (ht : OkN to) (hnew : findI to xs = none) (hbt : 9 ≤ bits ∧ bits ≤ 16) (hfew : xs.length < 100)
    (H : ∀ h' y, y.nm = to → y.bk = [] → y.n = x.n → y.S = [] → y.B = [] → WdAt h' w wm (y :: xs) → (∀ k, k < x.n → conts (y :: xs) to k = conts xs nm k) → (∀ c, footI y c → h.size ≤ c) → Mod (· = wm) h h' → K (.int .i64 0) h') :
    CallsH Tryz.prog 16 #[ptrV w, str nm, str to, .int .i64 bits] h K ⟨⟩ := by
  subst en
  refine n16_calls ?_
  unfold n16
  have hxm := (findI_mem hx).1
  simp (disch := omega)
  have e1 : Ext h (h.push (.cells #[str to] 9)) := (by repeat' (first | (with_reducible exact Ext.refl _) | (with_reducible assumption) | (with_reducible refine push_ext ?_) | (with_reducible refine hset_ext ?_ ?_) | (with_reducible refine Ext.trans ?_ (by assumption)) | omega | (simp; done) | (simp; omega) | (refine Ext.size ?_) | (refine Nat.le_succ_of_le (Ext.size ?_))))
  refine named_c ht (get_pushed rfl) fun h1 e1' => ?_
  have E1 := e1.trans e1'
  simp (disch := omega)
  refine wide_c (by omega) ?_
  simp (disch := omega)
  refine which_c (a.ext E1) hn fun h2 e2 => ?_
  rw [hx]
  have E2 := E1.trans e2
  have a2 := a.ext E2
  have ax2 := a2.im x hxm
  have hlk : ptrOf xs to = .pointer none := by unfold ptrOf; rw [hnew]; rfl
  obtain ⟨N, hN⟩ : ∃ N, N = x.n * 512 := ⟨_, rfl⟩
  have hnb := ax2.n
  have cc := ax2.cells
  rw [← hN] at cc
  have c2 := cellOf (i := 2) cc rfl
  unfold ptrV
  simp (disch := omega) [cellOf (i := 0) a2.cells rfl, a2.look, hlk, c2]
  rw [Hp_makeMap]
  obtain ⟨cs, hcs⟩ : ∃ cs, cs = 2 ^ bits / 512 := ⟨_, rfl⟩
  obtain ⟨W, hW⟩ : ∃ W, 2 ^ bits = W := ⟨_, rfl⟩
  have hWc : W = cs * 512 := by rw [← hW, hcs]; exact pow_cs hbt.1
  have hWl : 512 ≤ W ∧ W ≤ 65536 := by
    rw [← hW]
    exact ⟨Nat.le_trans (by decide : 512 ≤ 2 ^ 9) (Nat.pow_le_pow_right (by decide) hbt.1), Nat.le_trans (Nat.pow_le_pow_right (by decide) hbt.2) (by decide)⟩
  have hs1 := fun (q : Bool) (tt : Nat) (o1 o2 : Go.Operand) (g : Heap) (K : Value → Heap → Prop) => Hp_shlW (P := Tryz.prog) (q := q) (t := tt) (x := o1) (y := o2) (k' := .i64) (K := K) (h := g) (a := 1) hW (by omega) (by omega) (by omega)
  simp (disch := omega) [hs1]
  refine (⟨_, rfl⟩ : ∃ f, f = ((h2.push (.map #[] 0)).push (.cells #[str to, str [], .int .i64 N, .int .i64 bits, .map (some h2.size), .slice none 0 0, .slice none 0 0] imT)).push (.cells (Array.replicate W (.int .u8 0)) u8T)).elim fun g0 eg => ?_
  have e3 : Ext h2 g0 := by rw [eg]; exact (by repeat' (first | (with_reducible exact Ext.refl _) | (with_reducible assumption) | (with_reducible refine push_ext ?_) | (with_reducible refine hset_ext ?_ ?_) | (with_reducible refine Ext.trans ?_ (by assumption)) | omega | (simp; done) | (simp; omega) | (refine Ext.size ?_) | (refine Nat.le_succ_of_le (Ext.size ?_))))
  have hb0 : g0[h2.size + 1]? = some (.cells #[str to, str [], .int .i64 N, .int .i64 bits, .map (some h2.size), .slice none 0 0, .slice none 0 0] imT) := by rw [eg, get_push (by simp)]; exact get_pushed (by simp)
  have hm0 : MapK ik g0 h2.size [] := by rw [eg]; exact ((MapK.new rfl).ext (by repeat' (first | (with_reducible exact Ext.refl _) | (with_reducible assumption) | (with_reducible refine push_ext ?_) | (with_reducible refine hset_ext ?_ ?_) | (with_reducible refine Ext.trans ?_ (by assumption)) | omega | (simp; done) | (simp; omega) | (refine Ext.size ?_) | (refine Nat.le_succ_of_le (Ext.size ?_))))).ext (by repeat' (first | (with_reducible exact Ext.refl _) | (with_reducible assumption) | (with_reducible refine push_ext ?_) | (with_reducible refine hset_ext ?_ ?_) | (with_reducible refine Ext.trans ?_ (by assumption)) | omega | (simp; done) | (simp; omega) | (refine Ext.size ?_) | (refine Nat.le_succ_of_le (Ext.size ?_))))
  have oz : OwnT u8T 1 g0 (.slice (some ⟨h2.size + 2, 0, none⟩) W W) ((List.replicate W (0 : UInt8)).map byteV) := by
    rw [eg]
    have := own_make (h := (h2.push (.map #[] 0)).push (.cells #[str to, str [], .int .i64 N, .int .i64 bits, .map (some h2.size), .slice none 0 0, .slice none 0 0] imT)) (N := W)
    rw [Array.size_push, Array.size_push] at this
    exact this
  rw [show ((h2.push (.map #[] 0)).push (.cells #[str to, str [], .int .i64 N, .int .i64 bits, .map (some h2.size), .slice none 0 0, .slice none 0 0] 72)).push (.cells (Array.replicate W (.int .u8 0)) 5) = g0 from eg.symm]
  clear eg
  rw [show ((h2.push (.map #[] 0)).push (.cells #[str to, str [], .int .i64 N, .int .i64 bits, .map (some h2.size), .slice none 0 0, .slice none 0 0] 72)).size = h2.size + 2 by simp]
  obtain ⟨y0, hy0⟩ : ∃ y0, y0 = newI to [] x.n bits (h2.size + 1) h2.size := ⟨_, rfl⟩
  have hne01 : ¬ h2.size = h2.size + 1 := by omega
  have i0 : ImAt g0 y0 := by
    rw [hy0]
    exact ⟨by have h9 := hb0; rw [hN] at h9; exact h9, ⟨hm0, fun c v hv => (by cases hv), fun c v b hv => (by cases hv)⟩, hnb, hbt, pow_cs hbt.1, .nil, fun s hs => (by cases hs), .nil, fun b hb => (by cases hb), hne01, by simp [newI], fun b hb => (by cases hb)⟩
  have y0n : y0.n = x.n := by rw [hy0]; rfl
  have y0c : y0.cs = cs := by rw [hy0, hcs]; rfl
  have y0b : y0.b = h2.size + 1 := by rw [hy0]; rfl
  have y0m : y0.m = h2.size := by rw [hy0]; rfl
  have y0F : y0.F = [] := by rw [hy0]; rfl
  have y0Z : y0.Z = [] := by rw [hy0]; rfl
  have y0k : y0.nm = to ∧ y0.bk = [] ∧ y0.S = [] ∧ y0.B = [] ∧ y0.sv = .slice none 0 0 ∧ y0.bv = .slice none 0 0 := by rw [hy0]; exact ⟨rfl, rfl, rfl, rfl, rfl, rfl⟩
  rw [show (.pointer (some ⟨h2.size + 1, 0, none⟩) : Value) = ptrV y0.b by rw [y0b]; rfl]
  refine clusters_c i0 ?_
  obtain ⟨C, hC⟩ : ∃ C, C = (y0.n + y0.cs - 1) / y0.cs := ⟨_, rfl⟩
  rw [← hC]
  have hcs0 : 0 < cs := by omega
  have hCb : C ≤ 131072 + 128 := by rw [hC, y0n, y0c]; exact Nat.le_trans (Nat.div_le_self _ _) (by omega)
  have hz2 := E2.size
  have E3 := E2.trans e3
  refine loopX1 (α := Nat × Im) (fun a => .int .i64 a.1) (fun a g => a.1 ≤ C ∧ Ext h g ∧ ImAt g a.2 ∧ OwnT u8T 1 g (.slice (some ⟨h2.size + 2, 0, none⟩) W W) ((List.replicate W (0 : UInt8)).map byteV) ∧ (∃ F G, a.2 = { y0 with F := F, G := G }) ∧ (∀ i : Nat, a.1 ≤ i → look2 (i : Int) a.2.F = none) ∧ (∀ k, k < x.n → k / cs < a.1 → (if a.2.isOwn (k / cs) then sct (a.2.G ((k / cs : Nat) : Int)) (k % cs) else z512) = conts xs x.nm k)) (fun a => C - a.1) (0, y0) rfl ⟨by simp, E3, i0, oz, ⟨y0.F, y0.G, rfl⟩, fun i _ => by rw [y0F]; rfl, fun k _ hk => by simp at hk⟩ ?_
  rintro ⟨c, y⟩ g ⟨hc, eg, iy, oz, ⟨F, G, hy⟩, hno, hct⟩ X hX
  dsimp only at hc iy oz hy hno hct hX ⊢
  have yb : y.b = h2.size + 1 := by rw [hy]; exact y0b
  have ym : y.m = h2.size := by rw [hy]; exact y0m
  have ycs : y.cs = cs := by rw [hy]; exact y0c
  by_cases hcC : c < C
  · have ag := a.ext eg
    have axg := ag.im x hxm
    have cx := axg.cells
    rw [← hN] at cx
    have d2 := cellOf (i := 2) cx rfl
    have hccs : c * cs < x.n := by
      have h1 : c < (x.n + cs - 1) / cs := by rw [hC, y0n, y0c] at hcC; exact hcC
      have h2 : (c + 1) * cs ≤ x.n + cs - 1 := (Nat.le_div_iff_mul_le hcs0).1 h1
      rw [Nat.add_mul, Nat.one_mul] at h2
      omega
    obtain ⟨P, hP⟩ : ∃ P, P = c * cs := ⟨_, rfl⟩
    obtain ⟨Q, hQ⟩ : ∃ Q, Q = P * 512 := ⟨_, rfl⟩
    obtain ⟨m, hm⟩ : ∃ m, m = min cs (x.n - P) := ⟨_, rfl⟩
    obtain ⟨M, hM⟩ : ∃ M, M = m * 512 := ⟨_, rfl⟩
    rw [← hP] at hccs
    have hcW : (c : Int) * (W : Int) = (Q : Int) := by
      have h1 : c * W = Q := by rw [hWc, hQ, hP, Nat.mul_assoc]
      rw [← h1, Int.natCast_mul]
    have hs2 := fun (q : Bool) (tt : Nat) (o1 o2 : Go.Operand) (g : Heap) (K : Value → Heap → Prop) => Hp_shlW (P := Tryz.prog) (q := q) (t := tt) (x := o1) (y := o2) (k' := .i64) (K := K) (h := g) (a := (c : Int)) hW (by omega) (by omega) (by rw [hcW]; omega)
    have hmin : (if (N : Int) - (Q : Int) < (W : Int) then (N : Int) - (Q : Int) else (W : Int)) = (M : Int) := by split <;> omega
    have hd1 : (Q : Int) / 512 = (P : Int) := by omega
    have hd2 : (M : Int) / 512 = (m : Int) := by omega
    simp (disch := omega)
    refine JoinN.mk ?_
    refine JoinN.mk ?_
    simp (disch := omega) [d2, hs1, hs2, hcW, Hp_min2, hmin, hd1, hd2]
    rw [show (.pointer (some ⟨x.b, 0, none⟩) : Value) = ptrV x.b from rfl, show (.pointer (some ⟨w, 0, none⟩) : Value) = ptrV w from rfl]
    refine content_x ag hx (by omega) fun b e L g1 o1 hL hs e4 f4 => ?_
    have oz1 := oz.ext e4
    simp (disch := omega)
    have hbyL : Bytes g1 (.slice (some ⟨b, 0, none⟩) (m * 512) e) L := by
      have := o1.part (lo := 0) (hi := m * 512) (c' := e) (by omega) (by omega) (by have := o1.seg.2.1; omega)
      rw [sub_zero, List.drop_zero, List.take_of_length_le (by omega)] at this
      exact this
    have hML : M ≤ W := by omega
    have hbyZ : Bytes g1 (.slice (some ⟨h2.size + 2, 0, none⟩) M W) (List.replicate M 0) := by
      have := oz1.part (lo := 0) (hi := M) (c' := W) (by omega) (by omega) (by omega)
      rw [sub_zero, List.drop_zero, List.take_replicate, Nat.min_eq_left hML] at this
      exact this
    refine bytesEq_c hbyL hbyZ ?_
    have fin : ∀ g' y', Ext h g' → ImAt g' y' → OwnT u8T 1 g' (.slice (some ⟨h2.size + 2, 0, none⟩) W W) ((List.replicate W (0 : UInt8)).map byteV) → (∃ F G, y' = { y0 with F := F, G := G }) → (∀ i : Nat, c + 1 ≤ i → look2 (i : Int) y'.F = none) → (∀ k, k < x.n → k / cs < c + 1 → (if y'.isOwn (k / cs) then sct (y'.G ((k / cs : Nat) : Int)) (k % cs) else z512) = conts xs x.nm k) → X (.int .i64 ((c : Int) + 1)) g' := fun g' y' q1 q2 q3 q4 q5 q6 => hX (c + 1, y') _ _ (by simp) ⟨hcC, q1, q2, q3, q4, q5, q6⟩ (by dsimp only; omega)
    have hkc : ∀ k, k < x.n → k / cs = c → sct L (k % cs) = conts xs x.nm k := fun k hk hkc => by
      have hkd := Nat.div_add_mod k cs
      rw [hkc, Nat.mul_comm, ← hP] at hkd
      have hkl := Nat.mod_lt k hcs0
      rw [hs _ (by omega)]
      congr 1
    by_cases hz : L = List.replicate M 0
    · rw [decide_eq_true hz]
      simp (disch := omega)
      refine fin g1 y (eg.trans e4) (iy.ext e4) oz1 ⟨F, G, hy⟩ (fun i hi => hno i (by omega)) (fun k hk hkc1 => ?_)
      by_cases e9 : k / cs = c
      · have hown : y.isOwn (k / cs) = false := by
          unfold Im.isOwn
          rw [e9, hno c (Nat.le_refl _)]; rfl
        rw [hown, ← hkc k hk e9, hz]
        have hkd := Nat.div_add_mod k cs
        rw [e9, Nat.mul_comm, ← hP] at hkd
        have hkl := Nat.mod_lt k hcs0
        rw [sct_rep (by omega)]
        rfl
      · exact hct k hk (by omega)
    · rw [decide_eq_false hz]
      have iy1 := iy.ext e4
      have cy := iy1.cells
      rw [yb, ym] at cy
      have d4 := cellOf (i := 4) cy rfl
      rw [y0b]
      unfold ptrV
      simp (disch := omega) [d4]
      have hbyR : Bytes g1 (.slice (some (sub ⟨h2.size + 2, 0, none⟩ M W)) (W - M) (W - M)) (List.replicate (W - M) 0) := by
        have := oz1.part (lo := M) (hi := W) (c' := W - M) hML (Nat.le_refl _) (Nat.le_refl _)
        rw [List.take_replicate, Nat.min_self, List.drop_replicate] at this
        exact this
      have hsrc := Src.of_bytes hbyR
      rw [List.length_replicate] at hsrc
      have hLM : L.length = M := by omega
      have o1' := o1
      rw [← hM] at o1' ⊢
      refine Hp_appendT (e := u8T) (s := 1) (by_ := 1) (n := M) (k := W - M) (news := (List.replicate (W - M) (0 : UInt8)).map byteV) (by kernel_rfl) (by kernel_rfl) o1' (by rw [List.length_map]; omega) (by omega) hsrc (one_bytes _) (by omega) (by omega) fun v' g2 oO mM fF _ => ?_
      have hzl : h2.size + 2 < g.size := oz.lt rfl
      have hzl1 : h2.size + 2 < g1.size := oz1.lt rfl
      have hbf : h2.size + 2 < b := by omega
      have e5 : Ext g g2 := mM.ext_from e4 (fun c hc e => by have e' : b = c := Option.some.inj e; omega)
      have iy2 := iy.ext e5
      have cy2 := iy2.cells
      rw [yb, ym] at cy2
      have d4' := cellOf (i := 4) cy2 rfl
      have hfr : ∀ c, blkV v' = some c → h2.size + 2 < c := fun c hc => (fF c hc).elim (fun e => by have e' : b = c := Option.some.inj e; omega) (fun e => by omega)
      obtain ⟨va, vn, vc, hv', -, -, -⟩ := oO.form (by omega)
      simp (disch := omega) [d4']
      have mpy := iy2.cl.map
      rw [ym] at mpy
      refine Hp_mapUpdate clKey mpy fun g3 mp3 m3 => ?_
      simp (disch := omega)
      obtain ⟨d, hd⟩ : ∃ d, d = L ++ List.replicate (W - M) 0 := ⟨_, rfl⟩
      have hdl : d.length = y.cs * 512 := by rw [hd, List.length_append, List.length_replicate, ycs]; omega
      have m3' : Mod (· = y.m) g2 g3 := by rw [ym]; exact m3
      have oO3 : OwnT u8T 1 g3 v' (d.map byteV) := by
        rw [hd, List.map_append]
        exact oO.mod m3 (fun c hc e => by have := hfr c hc; omega)
      have iy3 := iy2.put (c := c) (v := v') (d := d) m3' (by rw [ym]; exact mp3) oO3 hdl (fun b _ hbz => by
        have : y.Z = [] := by rw [hy]; exact y0Z
        rw [this] at hbz
        cases hbz)
      have E6 : Ext h g3 := m3.ext_from (eg.trans e5) (fun b hb e => by have e' : b = h2.size := e; omega)
      refine fin g3 (y.put c v' d) E6 iy3 ((oz.ext e5).mod m3 (fun b hb e => by have e1 : h2.size + 2 = b := Option.some.inj hb; have e2 : b = h2.size := e; omega)) ⟨(y.put c v' d).F, (y.put c v' d).G, by rw [hy]; rfl⟩ (fun i hi => ?_) (fun k hk hkc1 => ?_)
      · show look2 (i : Int) (upd (c : Int) v' y.F) = none
        rw [look2_upd, if_neg (by omega)]
        exact hno i (by omega)
      · rw [put_own]
        by_cases e9 : k / cs = c
        · rw [e9]
          have ed : decide (c = c) = true := decide_eq_true rfl
          rw [ed]
          show sct ((y.put c v' d).G (c : Int)) (k % cs) = conts xs x.nm k
          have hG : (y.put c v' d).G (c : Int) = d := by unfold Im.put; dsimp only; rw [if_pos rfl]
          have hkd := Nat.div_add_mod k cs
          rw [e9, Nat.mul_comm, ← hP] at hkd
          have hkl := Nat.mod_lt k hcs0
          rw [hG, hd, sct_app (m := m) (by omega), if_pos (by omega)]
          exact hkc k hk e9
        · have ed : decide (k / cs = c) = false := decide_eq_false e9
          rw [ed, Bool.false_or]
          have hG : (y.put c v' d).G ((k / cs : Nat) : Int) = y.G ((k / cs : Nat) : Int) := by unfold Im.put; dsimp only; rw [if_neg (fun e => e9 (Int.ofNat_inj.1 e))]
          rw [hG]
          exact hct k hk (by omega)
  · obtain rfl : c = C := by omega
    have ag := a.ext eg
    obtain ⟨Mm, hMm, hl⟩ := ag.map
    simp (disch := omega) [cellOf (i := 0) ag.cells rfl]
    refine Hp_mapUpdate imKey hMm fun g2 mp2 m2 => ?_
    have ynm : y.nm = to := by rw [hy]; exact y0k.1
    have ybk : y.bk = [] := by rw [hy]; exact y0k.2.1
    have yS : y.S = [] := by rw [hy]; exact y0k.2.2.1
    have yB : y.B = [] := by rw [hy]; exact y0k.2.2.2.1
    have yn : y.n = x.n := by rw [hy]; exact y0n
    have hfy : ∀ c, footI y c → h.size ≤ c := fun c hc => footNew yS yB (by rw [hy]; exact y0k.2.2.2.2.1) (by rw [hy]; exact y0k.2.2.2.2.2) (by omega) (by omega) hc
    have hw := get_some_lt a.cells
    have hwm := a.map.choose_spec.1.lt
    have fin := ag.consI (y := y) (z := h.size) (M := Mm) (by rw [ynm]; exact ht) (by rw [ynm]; exact hnew) (.inl ybk) hfew iy hfy (fun z hz c hc => (a.im z hz).lt hc) hw hwm hl hMm (by rw [ynm, yb, ← y0b]; exact mp2) m2
    refine H g2 y ynm ybk yn yS yB fin (fun k hk => ?_) hfy ((Mod.of_ext eg).trans m2 (fun _ _ e => e))
    have h1 := hct k hk (by
      have : k / cs < (x.n + cs - 1) / cs := by
        show k / cs + 1 ≤ _
        rw [Nat.le_div_iff_mul_le hcs0, Nat.add_mul, Nat.one_mul]
        have := Nat.div_mul_le_self k cs
        omega
      rw [hC, y0n, y0c]; exact this)
    rw [← h1]
    conv => lhs; unfold conts
    rw [if_pos ynm.symm, yn, if_pos hk, ycs, ybk]
    have : conts xs [] k = z512 := conts_none (findI_none.2 fun z hz => a.wl.ne z hz)
    rw [this]
end Go.Proofs.YtoonjlhfgjnnmaaGreat
set_option linter.unusedSimpArgs false
set_option linter.unusedVariables false
namespace Go.Proofs.YtoonjlhfgjnnmaaGreat
open Go.Vc
variable {K : Value → Heap → Prop} {h : Heap}

/-- The image's cells written. -/
theorem ImAt.cellset {x x' : Im} {i : Nat} {v : Value} (ax : ImAt h x) (hb : x'.b = x.b) (hi : i < 7) (hc : (#[str x.nm, str x.bk, .int .i64 ((x.n * 512 : Nat) : Int), .int .i64 x.bits, .map (some x.m), x.sv, x.bv] : Array Value).setIfInBounds i v = #[str x'.nm, str x'.bk, .int .i64 ((x'.n * 512 : Nat) : Int), .int .i64 x'.bits, .map (some x'.m), x'.sv, x'.bv])
    (hn : x'.n ≤ 131072) (e1 : x'.bits = x.bits ∧ x'.cs = x.cs ∧ x'.m = x.m ∧ x'.F = x.F ∧ x'.G = x.G) (e2 : x'.sv = x.sv ∧ x'.bv = x.bv ∧ x'.S = x.S ∧ x'.B = x.B ∧ x'.Z = x.Z) : ImAt (hset h ⟨x.b, i, none⟩ v) x' := by
  obtain ⟨a1, a2, a3, a4, a5⟩ := e1
  obtain ⟨b1, b2, b3, b4, b5⟩ := e2
  have m : Mod (· = x.b) h (hset h ⟨x.b, i, none⟩ v) := Mod.set h ⟨x.b, i, none⟩ v
  have nc : ∀ {mm : Nat} {F : List (Int × Value)} {G : Int → List UInt8} {Z : List Nat}, ClAt h mm x.cs F G Z → ClAt (hset h ⟨x.b, i, none⟩ v) mm x.cs F G Z := fun c => foot_modB ax m (fun b e => .inl e) c
  refine ⟨?_, by rw [a2, a3, a4, a5, b5]; exact nc ax.cl, hn, by rw [a1]; exact ax.bits, by rw [a1, a2]; exact ax.cs, by rw [b1, b3]; exact ax.sn.mod m (fun b hb e => ax.sn.ne hb ax.cells (by decide) e), fun s hs => by rw [a2, b5]; rw [b3] at hs; exact nc (ax.snc s hs), by rw [b2, b4]; exact ax.bm.mod m (fun b hb e => ax.bm.ne hb ax.cells (by decide) e), fun y hy => ?_, by rw [a3, hb]; exact ax.mne, by rw [a3, b3, b4]; exact ax.bnd, fun b hb => ?_⟩
  · rw [hb, obj_set ax.cells, hc]
  · rw [b4] at hy
    refine (ax.bmd y hy).mod m (fun e => ?_)
    obtain ⟨es, cl, h1, _⟩ := ax.bmd y hy
    have e' : y.m = x.b := e
    rw [e', ax.cells] at h1
    cases h1
  · rw [b5] at hb
    exact Nat.lt_of_lt_of_le (ax.zlt b hb) m.size
set_option maxHeartbeats 2000000 in
theorem resizeG_c {w wm n1 q : Nat} {xs : List Im} {x : Im} (a : WdAt h w wm xs) (hx : findI x.nm xs = some x) (hB : x.B = []) (hn1 : x.n ≤ n1 ∧ n1 ≤ 131072) (hq : x.n = q * x.cs)
    (H : ∀ h' x', (∃ F G, x' = { x with n := n1, F := F, G := G }) → WdAt h' w wm (setI x' xs) → (∀ k, k < n1 → conts (setI x' xs) x.nm k = if k < x.n then conts xs x.nm k else z512) → Mod (fun b => b = x.b ∨ b = x.m) h h' → K (.tuple #[]) h') :
    CallsH Tryz.prog 49 #[ptrV w, ptrV x.b, .int .i64 ((n1 * 512 : Nat) : Int)] h K ⟨⟩ := by
  refine n49_calls ?_
  unfold n49
  have hxm := (findI_mem hx).1
  have ax := a.im x hxm
  obtain ⟨hb9, hb16⟩ := ax.bits
  have hcs := ax.cs
  have hcs0 := ax.cs0
  obtain ⟨W, hW⟩ : ∃ W, 2 ^ x.bits = W := ⟨_, rfl⟩
  rw [hW] at hcs
  have hWl : 512 ≤ W ∧ W ≤ 65536 := by
    rw [← hW]
    exact ⟨Nat.le_trans (by decide : 512 ≤ 2 ^ 9) (Nat.pow_le_pow_right (by decide) hb9), Nat.le_trans (Nat.pow_le_pow_right (by decide) hb16) (by decide)⟩
  obtain ⟨N, hN⟩ : ∃ N, N = x.n * 512 := ⟨_, rfl⟩
  obtain ⟨N1, hN1⟩ : ∃ N1, N1 = n1 * 512 := ⟨_, rfl⟩
  have hqW : q * W = N := by rw [hN, hq, hcs, Nat.mul_assoc]
  have hqi : (q : Int) * (W : Int) = (N : Int) := by rw [← hqW, Int.natCast_mul]
  have hqd : (N : Int) / (W : Int) = (q : Int) := by
    have h1 : N / W = q := by rw [← hqW]; exact Nat.mul_div_cancel _ (by omega)
    rw [← h1, Int.natCast_ediv]
  have hqd2 : ((N : Int) + (W : Int) - 1) / (W : Int) = (q : Int) := by
    have h1 : (N + W - 1) / W = q := by
      rw [← hqW]
      have e : q * W + W - 1 = W * q + (W - 1) := by rw [Nat.mul_comm]; omega
      rw [e, Nat.mul_add_div (by omega), Nat.div_eq_of_lt (by omega)]
      omega
    have h2 : (N : Int) + (W : Int) - 1 = ((N + W - 1 : Nat) : Int) := by omega
    rw [h2, ← h1, Int.natCast_ediv]
  have cc := ax.cells
  rw [← hN] at cc
  have c2 := cellOf (i := 2) cc rfl
  have f2 := frzOf (i := 2) cc
  have c3 := cellOf (i := 3) cc rfl
  have hs1 := fun (q : Bool) (tt : Nat) (o1 o2 : Go.Operand) (g : Heap) (K : Value → Heap → Prop) => Hp_shlW (P := Tryz.prog) (q := q) (t := tt) (x := o1) (y := o2) (k' := .i64) (K := K) (h := g) (a := 1) hW (by omega) (by omega) (by omega)
  have hs2 := fun (q' : Bool) (tt : Nat) (o1 o2 : Go.Operand) (g : Heap) (K : Value → Heap → Prop) => Hp_shlW (P := Tryz.prog) (q := q') (t := tt) (x := o1) (y := o2) (k' := .i64) (K := K) (h := g) (a := (q : Int)) hW (by omega) (by omega) (by rw [hqi]; omega)
  have hs3 := fun (q : Bool) (tt : Nat) (o1 o2 : Go.Operand) (g : Heap) (K : Value → Heap → Prop) => Hp_shrW (P := Tryz.prog) (q := q) (t := tt) (x := o1) (y := o2) (k' := .i64) (K := K) (h := g) (a := (N : Int)) hW (by omega) (by omega)
  have hs4 := fun (q : Bool) (tt : Nat) (o1 o2 : Go.Operand) (g : Heap) (K : Value → Heap → Prop) => Hp_shrW (P := Tryz.prog) (q := q) (t := tt) (x := o1) (y := o2) (k' := .i64) (K := K) (h := g) (a := (N : Int) + (W : Int) - 1) hW (by omega) (by omega)
  rw [← hN1]
  unfold ptrV
  simp (disch := omega) [c2, f2]
  refine JoinN_in0 (fun g => g = h) (fun kk hkk => ?_) (fun g hg => ?_)
  · by_cases hgt : N < N1
    · simp (disch := omega) [c3, hs3, hqd, hs2, hqi, hgt]
      exact hkk h rfl
    · simp (disch := omega) [c3, hs3, hqd, hgt]
      exact hkk h rfl
  rw [hg]
  clear hg
  simp (disch := omega) [c2, f2, c3, hs1, hs4, hqd2]
  obtain ⟨x1, hx1⟩ : ∃ x1 : Im, x1 = { x with n := n1 } := ⟨_, rfl⟩
  have i1 : ImAt (hset h ⟨x.b, 2, none⟩ (.int .i64 N1)) x1 := by
    rw [hx1]
    exact ax.cellset (x' := { x with n := n1 }) rfl (by omega) (by rw [hN1]; rfl) hn1.2 ⟨rfl, rfl, rfl, rfl, rfl⟩ ⟨rfl, rfl, rfl, rfl, rfl⟩
  have x1n : x1.nm = x.nm := by rw [hx1]
  have hx1f : findI x1.nm xs = some x := by rw [x1n]; exact hx
  have M1 : Mod (· = x.b) h (hset h ⟨x.b, 2, none⟩ (.int .i64 N1)) := Mod.set h ⟨x.b, 2, none⟩ _
  have a1 : WdAt (hset h ⟨x.b, 2, none⟩ (.int .i64 N1)) w wm (setI x1 xs) := a.upd hx x1n (by rw [hx1]) (a.wl.set hx1f (by rw [hx1])) M1 (fun b _ e => .inl e) i1 (fun b hb => .inl (by rw [hx1] at hb; exact hb))
  obtain ⟨C, hC⟩ : ∃ C, C = (n1 + x.cs - 1) / x.cs := ⟨_, rfl⟩
  refine (⟨_, rfl⟩ : ∃ f, f = hset h ⟨x.b, 2, none⟩ (.int .i64 N1)).elim fun g0 eg => ?_
  rw [← eg] at i1 M1 a1 ⊢
  clear eg
  have k3 := cellOf (i := 3) i1.cells rfl
  rw [hx1] at k3
  dsimp only at k3
  refine loopX1 (α := Nat × Im) (fun a => .int .i64 a.1) (fun a g => q ≤ a.1 ∧ a.1 ≤ max q C ∧ WdAt g w wm (setI a.2 xs) ∧ Mod (fun b => b = x.b ∨ b = x.m) h g ∧ (∃ F G, a.2 = { x with n := n1, F := F, G := G }) ∧ (∀ i : Nat, a.2.isOwn i = (x.isOwn i || decide (q ≤ i ∧ i < a.1))) ∧ (∀ i : Nat, a.2.G i = if q ≤ i ∧ i < a.1 then List.replicate (x.cs * 512) 0 else x.G i)) (fun a => C - a.1) (q, x1) rfl ⟨by simp, by dsimp only; omega, a1, M1.mono (fun _ _ e => .inl e), ⟨x.F, x.G, hx1⟩, fun i => by rw [hx1, decide_eq_false (by dsimp only; omega), Bool.or_false]; rfl, fun i => by rw [hx1, if_neg (by dsimp only; omega)]⟩ ?_
  clear a1 M1 i1 k3 hx1 x1n hx1f
  rintro ⟨c, y⟩ g ⟨hqc, hcC, ag, mg, ⟨F, G, hy⟩, hown, hG⟩ X hX
  dsimp only at hqc hcC ag hy hown hG hX ⊢
  have ynm : y.nm = x.nm := by rw [hy]
  have yb : y.b = x.b := by rw [hy]
  have ym : y.m = x.m := by rw [hy]
  have ycs : y.cs = x.cs := by rw [hy]
  have hyf0 : findI y.nm xs = some x := by rw [ynm]; exact hx
  have hyf : findI y.nm (setI y xs) = some y := by rw [findI_setI hyf0, if_pos rfl]
  have iy := ag.im y (findI_mem hyf).1
  rw [show (.pointer (some ⟨x.b, 0, none⟩) : Value) = ptrV y.b by rw [yb]; rfl]
  refine clusters_c iy ?_
  have yn : y.n = n1 := by rw [hy]
  rw [yn, ycs, ← hC]
  have hCb : C ≤ 131072 + 128 := by rw [hC]; exact Nat.le_trans (Nat.div_le_self _ _) (by omega)
  by_cases hlt : c < C
  · have cy := iy.cells
    rw [yb, ym] at cy
    have d3 := cellOf (i := 3) cy rfl
    have d4 := cellOf (i := 4) cy rfl
    rw [show y.bits = x.bits by rw [hy]] at d3
    rw [yb]
    unfold ptrV
    simp (disch := omega) [d3, d4, hs1]
    refine (⟨_, rfl⟩ : ∃ f, f = g.push (.cells (Array.replicate W (.int .u8 0)) u8T)).elim fun g1 eg => ?_
    have e1 : Ext g g1 := by rw [eg]; exact (by repeat' (first | (with_reducible exact Ext.refl _) | (with_reducible assumption) | (with_reducible refine push_ext ?_) | (with_reducible refine hset_ext ?_ ?_) | (with_reducible refine Ext.trans ?_ (by assumption)) | omega | (simp; done) | (simp; omega) | (refine Ext.size ?_) | (refine Nat.le_succ_of_le (Ext.size ?_))))
    have oz : OwnT u8T 1 g1 (.slice (some ⟨g.size, 0, none⟩) W W) ((List.replicate W (0 : UInt8)).map byteV) := by rw [eg]; exact own_make
    rw [show g.push (.cells (Array.replicate W (.int .u8 0)) 5) = g1 from eg.symm]
    clear eg
    have iy1 := iy.ext e1
    have cy1 := iy1.cells
    rw [yb, ym] at cy1
    have d4' := cellOf (i := 4) cy1 rfl
    have mpy := iy1.cl.map
    rw [ym] at mpy
    have hxbg : ¬ x.b = g.size := by have := get_some_lt cy; omega
    simp (disch := omega) [d4', hxbg, d4]
    refine Hp_mapUpdate clKey mpy fun g2 mp2 m2 => ?_
    simp (disch := omega)
    have m2' : Mod (· = y.m) g1 g2 := by rw [ym]; exact m2
    have hml : x.m < g.size := by have := iy.cl.map.lt; omega
    have oz2 := oz.mod m2 (fun b hb e => by have e1 : g.size = b := Option.some.inj hb; have e2 : b = x.m := e; omega)
    have ag1 := (ag.ext e1).put (c := c) (v := .slice (some ⟨g.size, 0, none⟩) W W) (d := List.replicate W 0) hyf m2' (by rw [ym]; exact mp2) oz2 (by rw [List.length_replicate, ycs, hcs]) (fun b hb hbz => by
      have e1 : g.size = b := Option.some.inj hb
      have := iy.zlt b hbz
      omega)
    rw [setI_setI (show (y.put c _ _).nm = y.nm from rfl)] at ag1
    refine hX (c + 1, y.put c (.slice (some ⟨g.size, 0, none⟩) W W) (List.replicate W 0)) _ _ (by simp) ⟨by dsimp only; omega, by dsimp only; omega, ag1, (mg.extIn e1).trans m2 (fun b _ e => .inr e), ⟨(y.put c (.slice (some ⟨g.size, 0, none⟩) W W) (List.replicate W 0)).F, (y.put c (.slice (some ⟨g.size, 0, none⟩) W W) (List.replicate W 0)).G, by rw [hy]; rfl⟩, fun i => ?_, fun i => ?_⟩ (by dsimp only; omega)
    · rw [put_own, hown]
      dsimp only
      by_cases e9 : i = c
      · rw [decide_eq_true e9, Bool.true_or, decide_eq_true (by omega), Bool.or_true]
      · rw [decide_eq_false e9, Bool.false_or]
        congr 1
        rw [Bool.eq_iff_iff, decide_eq_true_eq, decide_eq_true_eq]
        omega
    · dsimp only
      by_cases e9 : i = c
      · have hGc : (y.put c (.slice (some ⟨g.size, 0, none⟩) W W) (List.replicate W 0)).G (i : Int) = List.replicate W 0 := by unfold Im.put; dsimp only; rw [if_pos (by rw [e9])]
        rw [hGc, if_pos (by omega), hcs]
      · have hGc : (y.put c (.slice (some ⟨g.size, 0, none⟩) W W) (List.replicate W 0)).G (i : Int) = y.G (i : Int) := by unfold Im.put; dsimp only; rw [if_neg (fun e => e9 (Int.ofNat_inj.1 e))]
        rw [hGc, hG]
        by_cases e8 : q ≤ i ∧ i < c
        · rw [if_pos e8, if_pos (by omega)]
        · rw [if_neg e8, if_neg (by omega)]
  · have hd1 : (N : Int) / 512 = (x.n : Int) := by omega
    have hd2 : ((N1 : Int) - (N : Int)) / 512 = ((n1 - x.n : Nat) : Int) := by omega
    have yB : y.B = [] := by rw [hy]; exact hB
    simp (disch := omega) [hd1, hd2]
    refine touch0_c iy yB ?_
    refine H g y ⟨F, G, hy⟩ ag (fun k hk => ?_) mg
    have s1 := (chain_step (k := k) ag.wl.nd ag.wl.ne ag.wl.ch hyf).1
    have s2 := (chain_step (k := k) a.wl.nd a.wl.ne a.wl.ch hx).1
    have ybk : y.bk = x.bk := by rw [hy]
    rw [yn, if_pos hk, ycs, ynm] at s1
    have hkd := Nat.div_add_mod k x.cs
    have hkl := Nat.mod_lt k hcs0
    by_cases hkn : k < x.n
    · rw [if_pos hkn]
      rw [if_pos hkn] at s2
      have hkq : k / x.cs < q := by
        rw [Nat.div_lt_iff_lt_mul hcs0]
        omega
      have hd9 : decide (q ≤ k / x.cs ∧ k / x.cs < c) = false := decide_eq_false (fun e => Nat.lt_irrefl _ (Nat.lt_of_lt_of_le hkq e.1))
      have hG9 : y.G ((k / x.cs : Nat) : Int) = x.G ((k / x.cs : Nat) : Int) := by rw [hG, if_neg (fun e => Nat.lt_irrefl _ (Nat.lt_of_lt_of_le hkq e.1))]
      rw [s1, s2, hown, hd9, Bool.or_false, hG9, ybk, conts_bk_setI a.wl.nd a.wl.ne a.wl.ch hyf0]
    · rw [if_neg hkn]
      have hkq : q ≤ k / x.cs := by
        rw [Nat.le_div_iff_mul_le hcs0]
        omega
      have hkC : k / x.cs < C := by
        rw [hC]
        show k / x.cs + 1 ≤ _
        rw [Nat.le_div_iff_mul_le hcs0, Nat.add_mul, Nat.one_mul]
        have := Nat.div_mul_le_self k x.cs
        omega
      have hd9 : decide (q ≤ k / x.cs ∧ k / x.cs < c) = true := decide_eq_true ⟨hkq, Nat.lt_of_lt_of_le hkC (Nat.le_of_not_lt hlt)⟩
      rw [s1, hown, hd9, Bool.or_true, if_pos rfl, hG, if_pos ⟨hkq, Nat.lt_of_lt_of_le hkC (Nat.le_of_not_lt hlt)⟩]
      exact sct_rep (by
        have := Nat.mul_le_mul_right 512 (show k % x.cs + 1 ≤ x.cs from hkl)
        rw [Nat.add_mul, Nat.one_mul] at this
        exact this)
end Go.Proofs.YtoonjlhfgjnnmaaGreat
set_option linter.unusedSimpArgs false
set_option linter.unusedVariables false
namespace Go.Proofs.YtoonjlhfgjnnmaaGreat
open Go.Vc
variable {K : Value → Heap → Prop} {h : Heap}

theorem take_succ_mem {L : List Int} {j : Nat} (hj : j < L.length) (x : Int) : x ∈ L.take (j + 1) ↔ x ∈ L.take j ∨ x = L[j] := by
  rw [List.take_succ_eq_append_getElem hj, List.mem_append, List.mem_singleton]
set_option maxHeartbeats 2000000 in
theorem Commit_c {w wm q : Nat} {xs : List Im} {x y : Im} {nm : List UInt8} (a : WdAt h w wm xs) (hn : OkN nm) (en : x.nm = nm) (hx : findI nm xs = some x) (hy : findI x.bk xs = some y) (huq : ∀ z ∈ xs, z.bk = y.nm → z.nm = nm) (hyB : y.B = []) (hx1 : x.bits = 9 ∧ x.cs = 1)
    (hrng : ∀ c : Int, look2 c x.F ≠ none → 0 ≤ c ∧ c < x.n) (hn1 : x.n ≤ 1000) (hq : y.n ≤ x.n ∧ y.n = q * y.cs) (hfew : x.F.length < 100000)
    (H : ∀ h' y', (∃ F G, y' = { y with n := x.n, F := F, G := G }) → WdAt h' w wm (setI y' xs) → (∀ k, k < x.n → conts (setI y' xs) y.nm k = conts xs nm k) → (∀ k, k < x.n → conts (setI y' xs) nm k = conts xs nm k) → Mod (fun b => b = y.b ∨ b = y.m) h h' → K (.int .i64 0) h') :
    CallsH Tryz.prog 19 #[ptrV w, str nm] h K ⟨⟩ := by
  subst en
  refine n19_calls ?_
  unfold n19
  obtain ⟨hxm, -⟩ := findI_mem hx
  obtain ⟨hym, hynm⟩ := findI_mem hy
  have hne : y.nm ≠ x.nm := fun e => by
    have := (chain_step (k := 0) a.wl.nd a.wl.ne a.wl.ch hx).2.1
    rw [← hynm, e] at this
    omega
  have hyf : findI y.nm xs = some y := by rw [hynm]; exact hy
  refine which_c a hn fun h1 e1 => ?_
  rw [hx]
  have a1 := a.ext e1
  have ax1 := a1.im x hxm
  have c1 := cellOf (i := 1) ax1.cells rfl
  have hlk : ptrOf xs x.bk = ptrV y.b := by unfold ptrOf; rw [hy]; rfl
  have hlk0 := hlk
  unfold ptrV at hlk ⊢
  simp (disch := omega) [cellOf (i := 0) a1.cells rfl, a1.look, c1, hlk]
  rw [hlk0, show (.pointer (some ⟨w, 0, none⟩) : Value) = ptrV w from rfl]
  refine above1_c (nm0 := x.nm) a1 hym huq fun h2 n e2 hn2 hle => ?_
  have E2 := e1.trans e2
  have a2 := a.ext E2
  have ax2 := a2.im x hxm
  have c2 := cellOf (i := 2) ax2.cells rfl
  simp (disch := omega) [c2]
  rw [show (x.n : Int) * 512 = ((x.n * 512 : Nat) : Int) by omega]
  refine resizeG_c (n1 := x.n) (q := q) a2 hyf hyB ⟨hq.1, by omega⟩ hq.2 fun h3 y1 hy1 a3 hc1 m3 => ?_
  obtain ⟨F1, G1, hy1⟩ := hy1
  have y1n : y1.nm = y.nm := by rw [hy1]
  have y1b : y1.b = y.b := by rw [hy1]
  have y1f0 : findI y1.nm xs = some y := by rw [y1n]; exact hyf
  have xf : ∀ y' : Im, y'.nm = y.nm → findI x.nm (setI y' xs) = some x := fun y' e => by
    have : findI y'.nm xs = some y := by rw [e]; exact hyf
    rw [findI_setI this, if_neg (fun e2 => hne (by rw [e2, e])), hx]
  have ax3 := a3.im x (findI_mem (xf y1 y1n)).1
  have d4 := cellOf (i := 4) ax3.cells rfl
  simp (disch := omega) [d4]
  refine keysKeyC_c fun h4 e4 hb4 => ?_
  refine sortedKeyC_c hb4 (ax3.cl.map.ext e4) hfew fun h5 v L e5 hp hs ov fv => ?_
  obtain ⟨va, vn, vc, rfl, hvn, -, hvb⟩ := ov.form (by omega)
  rw [List.length_map, Nat.mul_one] at hvn
  subst hvn
  have hLl : L.length < 100000 := by rw [hp.length_eq, List.length_map]; exact hfew
  have memL : ∀ c : Int, c ∈ L ↔ look2 c x.F ≠ none := fun c => by
    rw [hp.mem_iff]
    constructor
    · intro hm e
      obtain ⟨p, hp1, rfl⟩ := List.mem_map.1 hm
      exact look2_none.1 e p.2 hp1
    · intro h9
      obtain ⟨u, hu⟩ := Option.ne_none_iff_exists'.1 h9
      exact List.mem_map.2 ⟨_, (look2_some ax3.cl.map.nodup).1 hu, rfl⟩
  have E5 := e4.trans e5
  have m35 : Mod (fun b => b = y.b ∨ b = y.m) h h5 := ((Mod.of_ext E2).trans m3 (fun _ _ e => e)).extIn E5
  simp (disch := omega)
  refine loopX1 (α := Nat × Im) (fun a => .int .i64 a.1) (fun a g => a.1 ≤ L.length ∧ WdAt g w wm (setI a.2 xs) ∧ Mod (fun b => b = y.b ∨ b = y.m) h g ∧ OwnT i6T 1 g (.slice va L.length vc) (L.map (.int .i64)) ∧ (∃ F G, a.2 = { y with n := x.n, F := F, G := G }) ∧ (∀ k, k < x.n → conts (setI a.2 xs) y.nm k = if (k : Int) ∈ L.take a.1 then conts xs x.nm k else conts (setI y1 xs) y.nm k)) (fun a => L.length - a.1) (0, y1) rfl ⟨by simp, a3.ext E5, m35, ov, ⟨F1, G1, hy1⟩, fun k hk => by simp⟩ ?_
  rintro ⟨j, z⟩ g ⟨hj, ag, mg, og, ⟨F, G, hz⟩, hcz⟩ X hX
  dsimp only at hj ag hz hcz hX ⊢
  have zn : z.nm = y.nm := by rw [hz]
  have zb : z.b = y.b := by rw [hz]
  have zm : z.m = y.m := by rw [hz]
  have znn : z.n = x.n := by rw [hz]
  have zB : z.B = [] := by rw [hz]; exact hyB
  have zf0 : findI z.nm xs = some y := by rw [zn]; exact hyf
  have zf : findI z.nm (setI z xs) = some z := by rw [findI_setI zf0, if_pos rfl]
  have axg := ag.im x (findI_mem (xf z zn)).1
  by_cases hjl : j < L.length
  · obtain ⟨b, rfl⟩ := hvb (by intro e; have := congrArg List.length e; simp at this; rw [this] at hjl; simp at hjl)
    have hel := (og.elt (i := j) (by simpa using hjl)).1
    rw [List.getElem_map] at hel
    have hcF := (memL L[j]).1 (List.getElem_mem hjl)
    obtain ⟨h0, h9⟩ := hrng _ hcF
    obtain ⟨c, hc⟩ := Int.eq_ofNat_of_zero_le h0
    rw [hc] at hel hcF h9
    obtain ⟨u, hu⟩ := Option.ne_none_iff_exists'.1 hcF
    obtain ⟨ou, hul⟩ := axg.cl.byt _ _ hu
    rw [hx1.2] at hul
    obtain ⟨ua, un, uc, rfl, hun, huc, hub⟩ := ou.form (by omega)
    rw [List.length_map, hul, Nat.mul_one] at hun
    obtain rfl : un = 512 := by omega
    obtain ⟨bu, rfl⟩ := hub (by intro e; have := congrArg List.length e; simp at this; rw [this] at hul; simp at hul)
    have cc := axg.cells
    obtain ⟨N, hN⟩ : ∃ N, N = x.n * 512 := ⟨_, rfl⟩
    obtain ⟨P, hP⟩ : ∃ P, P = c * 512 := ⟨_, rfl⟩
    rw [← hN] at cc
    have k2 := cellOf (i := 2) cc rfl
    have k3 := cellOf (i := 3) cc rfl
    have k4 := cellOf (i := 4) cc rfl
    have hb9 := hx1.1
    have hW : 2 ^ x.bits = 512 := by rw [hb9]
    have hPi : (c : Int) * 512 = (P : Int) := by omega
    have hs1 := fun (q : Bool) (tt : Nat) (o1 o2 : Go.Operand) (g : Heap) (K : Value → Heap → Prop) => Hp_shlW (P := Tryz.prog) (q := q) (t := tt) (x := o1) (y := o2) (k' := .i64) (K := K) (h := g) (a := 1) hW (by omega) (by omega) (by omega)
    have hs2 := fun (q : Bool) (tt : Nat) (o1 o2 : Go.Operand) (g : Heap) (K : Value → Heap → Prop) => Hp_shlW (P := Tryz.prog) (q := q) (t := tt) (x := o1) (y := o2) (k' := .i64) (K := K) (h := g) (a := (c : Int)) hW (by omega) (by omega) (by omega)
    have hmin : (if (N : Int) < (P : Int) + 512 then (N : Int) else (P : Int) + 512) = (P : Int) + 512 := by split <;> omega
    have hlkc := fun (q : Bool) (K : Value → Heap → Prop) => Hp_lookup (P := Tryz.prog) (q := q) (K := K) (k := (c : Int)) (ok := false) clKey (z := .slice none 0 0) (by kernel_rfl) axg.cl.map
    rw [hu] at hlkc
    have hd1 : (P : Int) / 512 = (c : Int) := by omega
    have hd2 : (P : Int) + 512 - (P : Int) = 512 := by omega
    simp (disch := omega) [hel, k2, k3, k4, hs1, hs2, hPi, Hp_min2, hmin, hd1, hd2]
    rw [hlkc]
    simp (disch := omega) [hd2]
    have hbyt : Bytes g (.slice (some ⟨bu, 0, none⟩) 512 uc) (x.G (c : Int)) := by
      have := ou.part (lo := 0) (hi := 512) (c' := uc) (by omega) (by omega) (by omega)
      rw [sub_zero, List.drop_zero, List.take_of_length_le (by omega)] at this
      exact this
    rw [show ptrV y.b = ptrV z.b by rw [zb]]
    refine lay_c (p := c) (m := 1) (s := x.G (c : Int)) ag zf (by omega) hbyt (by omega) fun z' g2 hl a2' m2 => ?_
    obtain ⟨F', G', hz'⟩ := hl.same
    have z'b : z'.b = z.b := by rw [hz']
    have z'n : z'.nm = y.nm := by rw [hz']; exact zn
    have hfz' := (hl.facts ag.wl zf).2.1
    simp (disch := omega)
    rw [show ptrV z.b = ptrV z'.b by rw [z'b]]
    refine touch0_c (a2'.im z' (findI_mem hfz').1) (by rw [hz']; exact zB) ?_
    simp (disch := omega)
    rw [setI_setI (show z'.nm = z.nm by rw [hz'])] at a2'
    refine hX (j + 1, z') _ _ (by simp) ⟨hjl, a2', mg.trans m2 (fun b _ e => by have e' : b = z.m := e; rw [e', zm]; exact .inr rfl), og.mod m2 (fun b hb e => ?_), ⟨F', G', by rw [hz', hz]⟩, fun k hk => ?_⟩ (by dsimp only; omega)
    · obtain ⟨es, cl, q1, _⟩ := (ag.im z (findI_mem zf).1).cl.map
      exact og.neM hb q1 e
    · have h1 := hl.cont k
      rw [setI_setI (show z'.nm = z.nm by rw [hz']), zn] at h1
      rw [h1]
      have hxs := (chain_step (k := k) a.wl.nd a.wl.ne a.wl.ch hx).1
      rw [if_pos hk, hx1.2, Nat.div_one, Nat.mod_one] at hxs
      dsimp only
      by_cases hkc : k = c
      · rw [if_pos (by omega), if_pos ((take_succ_mem hjl _).2 (.inr (by rw [hc, hkc]))), hxs]
        have hown : x.isOwn k = true := by unfold Im.isOwn; rw [hkc, hu]; rfl
        rw [if_pos hown, hkc, Nat.sub_self]
      · rw [if_neg (by omega), hcz k hk]
        have : ((k : Int) ∈ L.take (j + 1)) ↔ ((k : Int) ∈ L.take j) := by
          rw [take_succ_mem hjl, hc]
          exact ⟨fun h => h.resolve_right (fun e => hkc (Int.ofNat_inj.1 e)), .inl⟩
        by_cases hm : (k : Int) ∈ L.take j
        · rw [if_pos hm, if_pos (this.2 hm)]
        · rw [if_neg hm, if_neg (fun e => hm (this.1 e))]
  · obtain rfl : j = L.length := by omega
    simp (disch := omega)
    have key : ∀ k, k < x.n → conts (setI z xs) y.nm k = conts xs x.nm k := fun k hk => by
      rw [hcz k hk, List.take_length]
      by_cases hm : (k : Int) ∈ L
      · rw [if_pos hm]
      · rw [if_neg hm, hc1 k hk]
        have hxs := (chain_step (k := k) a.wl.nd a.wl.ne a.wl.ch hx).1
        have hown : x.isOwn k = false := by
          have : look2 (k : Int) x.F = none := by
            by_cases e : look2 (k : Int) x.F = none
            · exact e
            · exact absurd ((memL _).2 e) hm
          unfold Im.isOwn
          rw [this]; rfl
        rw [if_pos hk, hx1.2, Nat.div_one, hown] at hxs
        rw [hxs, ← hynm]
        by_cases hky : k < y.n
        · rw [if_pos hky]; rfl
        · rw [if_neg hky]
          have hys := (chain_step (k := k) a.wl.nd a.wl.ne a.wl.ch hyf).1
          rw [if_neg hky] at hys
          rw [hys]; rfl
    refine H g z ⟨F, G, hz⟩ ag key (fun k hk => ?_) mg
    have hxs := (chain_step (k := k) a.wl.nd a.wl.ne a.wl.ch hx).1
    have hzs := (chain_step (k := k) ag.wl.nd ag.wl.ne ag.wl.ch (xf z zn)).1
    rw [if_pos hk] at hxs hzs
    rw [hzs]
    by_cases ho : x.isOwn (k / x.cs) = true
    · rw [if_pos ho]
      rw [if_pos ho] at hxs
      exact hxs.symm
    · rw [if_neg ho, ← hynm]
      exact key k hk
end Go.Proofs.YtoonjlhfgjnnmaaGreat
set_option linter.unusedSimpArgs false
set_option linter.unusedVariables false
namespace Go.Proofs.YtoonjlhfgjnnmaaGreat
open Go.Vc
variable {K : Value → Heap → Prop} {h : Heap}

/-- With another backing. -/
def Im.on (x : Im) (bk : List UInt8) : Im := { x with bk := bk }
theorem imOn {x : Im} {bk : List UInt8} (ax : ImAt h x) : ImAt (hset h ⟨x.b, 1, none⟩ (str bk)) (x.on bk) :=
  ax.cellset (x' := x.on bk) rfl (by omega) rfl ax.n ⟨rfl, rfl, rfl, rfl, rfl⟩ ⟨rfl, rfl, rfl, rfl, rfl⟩
theorem wdOn {w wm : Nat} {xs : List Im} {x : Im} {bk : List UInt8} (a : WdAt h w wm xs) (hx : findI x.nm xs = some x) (hw : Wl (setI (x.on bk) xs)) : WdAt (hset h ⟨x.b, 1, none⟩ (str bk)) w wm (setI (x.on bk) xs) :=
  a.upd hx rfl rfl hw (Mod.set h ⟨x.b, 1, none⟩ _) (fun b _ e => .inl e) (imOn (a.im x (findI_mem hx).1)) (fun b hb => .inl hb)
set_option maxHeartbeats 4000000 in
theorem RebaseS_c {w wm : Nat} {xs : List Im} {x : Im} {nm new : List UInt8} (a : WdAt h w wm xs) (hn : OkN nm) (en : x.nm = nm) (hx : findI nm xs = some x) (hnew : new = [] ∨ (OkN new ∧ ∃ y, findI new xs = some y)) (hab : ∀ y ∈ xs, y.bk ≠ nm) (hx1 : x.bits = 9 ∧ x.cs = 1)
    (hwl : Wl (setI (x.on new) xs)) (hdeep : ∃ i, i ≤ 8 ∧ seqB xs nm new i = []) (hrng : ∀ c : Int, look2 c x.F ≠ none → 0 ≤ c ∧ c < x.n) (hn1 : x.n ≤ 1000)
    (H : ∀ h' x', (∃ F G, x' = { x with bk := new, F := F, G := G }) → WdAt h' w wm (setI x' xs) → (∀ k, k < x.n → conts (setI x' xs) nm k = conts xs nm k) → (∀ c : Int, look2 c x'.F ≠ none → 0 ≤ c ∧ c < x.n) → Mod (fun b => b = x.b ∨ b = x.m) h h' → K (.int .i64 0) h') :
    CallsH Tryz.prog 20 #[ptrV w, str nm, str new, .bool true] h K ⟨⟩ := by
  subst en
  refine n20_calls ?_
  unfold n20
  have hxm := (findI_mem hx).1
  have hnew0 : new = [] ∨ ∃ y, findI new xs = some y := hnew.imp id (·.2)
  have hW : 2 ^ x.bits = 512 := by rw [hx1.1]
  have hb9 := hx1.1
  have x0f : findI (x.on new).nm xs = some x := hx
  refine (fun (key : Unit → ∀ g0, WdAt g0 w wm (setI (x.on new) xs) → Mod (fun b => b = x.b ∨ b = x.m) h g0 → (?R : Heap → Prop) g0) => ?cs) (fun _ => ?lp)
  case cs =>
    rcases hnew with hb0 | ⟨hokb, yy, hyy⟩
    · simp (disch := omega) [hb0]
      refine which_c a hn fun h2 e2 => ?_
      rw [hx]
      unfold ptrV
      simp (disch := omega) [hb0]
      refine above_c (a.ext e2) hxm fun h3 n e3 hn3 hz => ?_
      obtain rfl : n = 0 := hz.2 hab
      have aG := a.ext (e2.trans e3)
      have axG := aG.im x hxm
      simp (disch := omega) [cellOf (i := 1) axG.cells rfl, frzOf (i := 1) axG.cells]
      refine deepB_c (b := false) aG hx hnew0 rfl (by simpa using hdeep) ?_
      have a0 := wdOn aG hx hwl
      have M0 : Mod (fun b => b = x.b ∨ b = x.m) h (hset h3 ⟨x.b, 1, none⟩ (str new)) := ((Mod.of_ext (e2.trans e3)).trans (Mod.set h3 ⟨x.b, 1, none⟩ (str new)) (fun b _ e => .inl e))
      refine (⟨_, rfl⟩ : ∃ f, f = hset h3 ⟨x.b, 1, none⟩ (str new)).elim fun g0 eg => ?_
      rw [← eg] at a0 M0 ⊢
      clear eg
      simp (disch := omega)
      exact key () g0 a0 M0
    · have hne := hokb.ne
      simp (disch := omega) [hne]
      have e1 : Ext h (h.push (.cells #[str new] 9)) := (by repeat' (first | (with_reducible exact Ext.refl _) | (with_reducible assumption) | (with_reducible refine push_ext ?_) | (with_reducible refine hset_ext ?_ ?_) | (with_reducible refine Ext.trans ?_ (by assumption)) | omega | (simp; done) | (simp; omega) | (refine Ext.size ?_) | (refine Nat.le_succ_of_le (Ext.size ?_))))
      refine named_c hokb (get_pushed rfl) fun h1 e1' => ?_
      have E1 := e1.trans e1'
      simp (disch := omega)
      refine which_c (a.ext E1) hn fun h2 e2 => ?_
      rw [hx]
      have E2 := E1.trans e2
      have a2 := a.ext E2
      have hlb : ptrOf xs new = ptrV yy.b := by unfold ptrOf; rw [hyy]; rfl
      unfold ptrV at hlb ⊢
      simp (disch := omega) [hne, cellOf (i := 0) a2.cells rfl, a2.look, hlb]
      refine above_c a2 hxm fun h3 n e3 hn3 hz => ?_
      obtain rfl : n = 0 := hz.2 hab
      have aG := a.ext (E2.trans e3)
      have axG := aG.im x hxm
      simp (disch := omega) [cellOf (i := 1) axG.cells rfl, frzOf (i := 1) axG.cells]
      refine deepB_c (b := false) aG hx hnew0 rfl (by simpa using hdeep) ?_
      have a0 := wdOn aG hx hwl
      have M0 : Mod (fun b => b = x.b ∨ b = x.m) h (hset h3 ⟨x.b, 1, none⟩ (str new)) := ((Mod.of_ext (E2.trans e3)).trans (Mod.set h3 ⟨x.b, 1, none⟩ (str new)) (fun b _ e => .inl e))
      refine (⟨_, rfl⟩ : ∃ f, f = hset h3 ⟨x.b, 1, none⟩ (str new)).elim fun g0 eg => ?_
      rw [← eg] at a0 M0 ⊢
      clear eg
      simp (disch := omega)
      exact key () g0 a0 M0
  intro g0 a0 M0
  obtain ⟨N, hN⟩ : ∃ N, N = x.n * 512 := ⟨_, rfl⟩
  have wlN : ∀ y : Im, y.nm = x.nm → y.bk = new → Wl (setI y xs) := fun y e1 e2 => by
    have h1 : findI (x.on new).nm (setI (x.on new) xs) = some (x.on new) := by rw [findI_setI x0f, if_pos rfl]
    have h2 : findI y.nm (setI (x.on new) xs) = some (x.on new) := by rw [e1]; exact h1
    have := hwl.set h2 e2
    rw [setI_setI (show y.nm = (x.on new).nm from e1)] at this
    exact this
  have wlO : ∀ y : Im, y.nm = x.nm → y.bk = x.bk → Wl (setI y xs) := fun y e1 e2 => a.wl.set (by rw [e1]; exact hx) e2
  have yf0 : ∀ y : Im, y.nm = x.nm → findI y.nm xs = some x := fun y e => by rw [e]; exact hx
  have yf : ∀ y : Im, y.nm = x.nm → findI y.nm (setI y xs) = some y := fun y e => by rw [findI_setI (yf0 y e), if_pos rfl]
  have old := fun k (hk : k < x.n) => (chain_step (k := k) a.wl.nd a.wl.ne a.wl.ch hx).1
  refine loopX1 (α := Nat × Im) (fun a => .int .i64 a.1) (fun a g => a.1 ≤ x.n ∧ WdAt g w wm (setI a.2 xs) ∧ Mod (fun b => b = x.b ∨ b = x.m) h g ∧ (∃ F G, a.2 = { x with bk := new, F := F, G := G }) ∧ (∀ k, k < a.1 → conts (setI a.2 xs) x.nm k = conts xs x.nm k) ∧ (∀ k : Nat, a.1 ≤ k → look2 (k : Int) a.2.F = look2 (k : Int) x.F ∧ a.2.G k = x.G k) ∧ (∀ c : Int, look2 c a.2.F ≠ none → 0 ≤ c ∧ c < x.n)) (fun a => x.n - a.1) (0, x.on new) rfl ⟨by simp, a0, M0, ⟨x.F, x.G, rfl⟩, fun k hk => by simp at hk, fun k _ => ⟨rfl, rfl⟩, hrng⟩ ?_
  clear a0 M0
  rintro ⟨c, y⟩ g ⟨hc, ag, mg, ⟨F, G, hy⟩, hdn, hsm, hry⟩ X hX
  dsimp only at hc ag hy hdn hsm hry hX ⊢
  have ynm : y.nm = x.nm := by rw [hy]
  have yb : y.b = x.b := by rw [hy]
  have ym : y.m = x.m := by rw [hy]
  have ybk : y.bk = new := by rw [hy]
  have ycs : y.cs = 1 := by rw [hy]; exact hx1.2
  have yn : y.n = x.n := by rw [hy]
  have iy := ag.im y (findI_mem (yf y ynm)).1
  rw [show (.pointer (some ⟨x.b, 0, none⟩) : Value) = ptrV y.b by rw [yb]; rfl]
  simp (disch := omega)
  refine clusters_c iy ?_
  rw [yn, ycs, show (x.n + 1 - 1) / 1 = x.n by rw [Nat.div_one]; omega]
  by_cases hlt : c < x.n
  · have cy := iy.cells
    rw [yb, ym, yn, ← hN] at cy
    have d1 := cellOf (i := 1) cy rfl
    have z1 := frzOf (i := 1) cy
    have d2 := cellOf (i := 2) cy rfl
    have d3 := cellOf (i := 3) cy rfl
    have d4 := cellOf (i := 4) cy rfl
    rw [show y.bits = x.bits by rw [hy]] at d3
    have hmp := iy.cl.map
    rw [ym] at hmp
    have hlk := fun (q : Bool) (K : Value → Heap → Prop) => Hp_lookup (P := Tryz.prog) (q := q) (K := K) (k := (c : Int)) (ok := true) clKey (z := .slice none 0 0) (by kernel_rfl) hmp
    have hs2 := old c hlt
    rw [if_pos hlt, hx1.2, Nat.div_one] at hs2
    obtain ⟨hsF, hsG⟩ := hsm c (Nat.le_refl _)
    simp (disch := omega)
    refine JoinN.mk ?_
    refine JoinN.mk ?_
    rw [yb]
    unfold ptrV
    simp (disch := omega) [d4]
    rw [hlk]
    cases hlc : look2 (c : Int) y.F with
    | some u =>
      simp (disch := omega)
      refine hX (c + 1, y) _ _ (by simp) ⟨hlt, ag, mg, ⟨F, G, hy⟩, fun k hk => ?_, fun k hk => hsm k (by dsimp only at hk; omega), hry⟩ (by dsimp only; omega)
      dsimp only at hk
      by_cases e : k = c
      · have s1 := (chain_step (k := k) ag.wl.nd ag.wl.ne ag.wl.ch (yf y ynm)).1
        have oy : y.isOwn c = true := by unfold Im.isOwn; rw [hlc]; rfl
        have ox : x.isOwn c = true := by unfold Im.isOwn; rw [← hsF, hlc]; rfl
        rw [e] at s1 ⊢
        rw [yn, if_pos hlt, ycs, Nat.div_one, if_pos oy, ynm] at s1
        rw [if_pos ox] at hs2
        rw [s1, hs2, hsG]
      · exact hdn k (by omega)
    | none =>
      obtain ⟨P, hP⟩ : ∃ P, P = c * 512 := ⟨_, rfl⟩
      have hPi : (c : Int) * 512 = (P : Int) := by omega
      have hs1 := fun (q : Bool) (tt : Nat) (o1 o2 : Go.Operand) (g : Heap) (K : Value → Heap → Prop) => Hp_shlW (P := Tryz.prog) (q := q) (t := tt) (x := o1) (y := o2) (k' := .i64) (K := K) (h := g) (a := 1) hW (by omega) (by omega) (by omega)
      have hs3 := fun (q : Bool) (tt : Nat) (o1 o2 : Go.Operand) (g : Heap) (K : Value → Heap → Prop) => Hp_shlW (P := Tryz.prog) (q := q) (t := tt) (x := o1) (y := o2) (k' := .i64) (K := K) (h := g) (a := (c : Int)) hW (by omega) (by omega) (by omega)
      have hmin : (if (N : Int) - (P : Int) < 512 then (N : Int) - (P : Int) else 512) = 512 := by split <;> omega
      have hd1 : (P : Int) / 512 = (c : Int) := by omega
      have ynone : y.isOwn c = false := by unfold Im.isOwn; rw [hlc]; rfl
      have xnone : x.isOwn c = false := by unfold Im.isOwn; rw [← hsF, hlc]; rfl
      rw [xnone] at hs2
      simp (disch := omega) [d2, d3, hs1, hs3, hPi, Hp_min2, hmin, hd1]
      rw [show (.pointer (some ⟨x.b, 0, none⟩) : Value) = ptrV y.b by rw [yb]; rfl, show (.pointer (some ⟨w, 0, none⟩) : Value) = ptrV w from rfl, show (.int .i64 1 : Value) = .int .i64 ((1 : Nat) : Int) from rfl]
      refine content_x (m := 1) ag (yf y ynm) (by omega) fun b1 c1 L1 g1 o1 hL1 hs1' e1 f1 => ?_
      have ag1 := ag.ext e1
      have cy1 := (iy.ext e1).cells
      rw [yb, ym, yn, ← hN] at cy1
      have z1' := frzOf (i := 1) cy1
      have k1 := cellOf (i := 1) cy1 rfl
      rw [yb]
      unfold ptrV
      simp (disch := omega) [k1, z1']
      refine JoinN.mk ?_
      -- the backing is the old one
      obtain ⟨yo, hyo⟩ : ∃ yo, yo = y.on x.bk := ⟨_, rfl⟩
      have yonm : yo.nm = x.nm := by rw [hyo]; exact ynm
      have yobk : yo.bk = x.bk := by rw [hyo]; rfl
      have ago : WdAt (hset g1 ⟨x.b, 1, none⟩ (str x.bk)) w wm (setI yo xs) := by
        have h1 := wdOn (bk := x.bk) ag1 (yf y ynm) (by rw [setI_setI (show (y.on x.bk).nm = y.nm from rfl), ← hyo]; exact wlO yo yonm yobk)
        rw [setI_setI (show (y.on x.bk).nm = y.nm from rfl), ← hyo, yb] at h1
        exact h1
      have Mo : Mod (· = x.b) g1 (hset g1 ⟨x.b, 1, none⟩ (str x.bk)) := Mod.set g1 ⟨x.b, 1, none⟩ _
      refine (⟨_, rfl⟩ : ∃ f, f = hset g1 ⟨x.b, 1, none⟩ (str x.bk)).elim fun g2 eg => ?_
      rw [← eg] at ago Mo ⊢
      clear eg
      have yob : yo.b = x.b := by rw [hyo]; exact yb
      have yom : yo.m = x.m := by rw [hyo]; exact ym
      have yocs : yo.cs = 1 := by rw [hyo]; exact ycs
      have yon : yo.n = x.n := by rw [hyo]; exact yn
      rw [show (.pointer (some ⟨x.b, 0, none⟩) : Value) = ptrV yo.b by rw [yob]; rfl, show (.pointer (some ⟨w, 0, none⟩) : Value) = ptrV w from rfl, show (.int .i64 1 : Value) = .int .i64 ((1 : Nat) : Int) from rfl]
      refine content_x (m := 1) ago (yf yo yonm) (by omega) fun b2 c2 L2 g3 o2 hL2 hs2' e3 f3 => ?_
      have ago3 := ago.ext e3
      have hxb : ∀ b, blkV (Value.slice (some ⟨b1, 0, none⟩) (1 * 512) c1) = some b → ¬ b = x.b := fun b hb e => by
        have e' : b1 = b := Option.some.inj hb
        have := get_some_lt cy
        omega
      have o1' := (o1.mod Mo hxb).ext e3
      have by1 : Bytes g3 (.slice (some ⟨b1, 0, none⟩) (1 * 512) c1) L1 := by
        have := o1'.part (lo := 0) (hi := 1 * 512) (c' := c1) (by omega) (by omega) (by have := o1'.seg.2.1; omega)
        rw [sub_zero, List.drop_zero, List.take_of_length_le (by omega)] at this
        exact this
      have by2 : Bytes g3 (.slice (some ⟨b2, 0, none⟩) (1 * 512) c2) L2 := by
        have := o2.part (lo := 0) (hi := 1 * 512) (c' := c2) (by omega) (by omega) (by have := o2.seg.2.1; omega)
        rw [sub_zero, List.drop_zero, List.take_of_length_le (by omega)] at this
        exact this
      rw [yob]
      unfold ptrV
      simp (disch := omega)
      refine bytesEq_c by1 by2 ?_
      have io := ago3.im yo (findI_mem (yf yo yonm)).1
      have co := io.cells
      rw [yob, yom, yon, ← hN] at co
      have q1 := cellOf (i := 1) co rfl
      have w1 := frzOf (i := 1) co
      have q3 := cellOf (i := 3) co rfl
      rw [show yo.bits = x.bits by rw [hyo, hy]; rfl] at q3
      have q4 := cellOf (i := 4) co rfl
      have yoown : yo.isOwn c = false := by rw [hyo]; exact ynone
      have hL2c : sct L2 0 = conts xs x.nm c := by
        have h1 := hs2' 0 (by omega)
        rw [Nat.add_zero, yonm] at h1
        have s1 := (chain_step (k := c) ago.wl.nd ago.wl.ne ago.wl.ch (yf yo yonm)).1
        rw [yon, if_pos hlt, yocs, Nat.div_one, yoown, yonm, yobk] at s1
        rw [h1, s1, hs2]
        exact conts_bk_setI a.wl.nd a.wl.ne a.wl.ch (yf0 yo yonm)
      have hL1c : sct L1 0 = conts (setI y xs) x.nm c := by
        have h1 := hs1' 0 (by omega)
        rw [Nat.add_zero, ynm] at h1
        exact h1
      have mg2 : Mod (fun b => b = x.b ∨ b = x.m) h g3 := ((mg.extIn e1).trans Mo (fun b _ e => .inl e)).extIn e3
      by_cases hLL : L1 = L2
      · rw [decide_eq_true hLL]
        simp (disch := omega) [q1, w1]
        have agn : WdAt (hset g3 ⟨x.b, 1, none⟩ (str new)) w wm (setI y xs) := by
          have h1 := wdOn (bk := new) ago3 (yf yo yonm) (by rw [setI_setI (show (yo.on new).nm = yo.nm from rfl)]; exact wlN _ yonm rfl)
          rw [setI_setI (show (yo.on new).nm = yo.nm from rfl), yob] at h1
          have e9 : yo.on new = y := by rw [hyo, hy]; rfl
          rw [e9] at h1
          exact h1
        refine hX (c + 1, y) _ _ (by simp) ⟨hlt, agn, mg2.trans (Mod.set g3 ⟨x.b, 1, none⟩ (str new)) (fun b _ e => .inl e), ⟨F, G, hy⟩, fun k hk => ?_, fun k hk => hsm k (by dsimp only at hk; omega), hry⟩ (by dsimp only; omega)
        dsimp only at hk
        by_cases e : k = c
        · rw [e, ← hL1c, hLL, hL2c]
        · exact hdn k (by omega)
      · rw [decide_eq_false hLL]
        have hd5 : (512 : Int) - 512 = 0 := by omega
        have mpo := io.cl.map
        rw [yom] at mpo
        simp (disch := omega) [q4, q3, hs1, hd5]
        refine Hp_appendZ0 (e := u8T) (by_ := 1) (z := .int .u8 0) (by kernel_rfl) (by kernel_rfl) (by kernel_rfl) rfl o2 ?_
        simp (disch := omega) [q4]
        refine Hp_mapUpdate clKey mpo fun g4 mp4 m4 => ?_
        have m4' : Mod (· = yo.m) g3 g4 := by rw [yom]; exact m4
        have hml : x.m < g2.size := by have := (ago.im yo (findI_mem (yf yo yonm)).1).cl.map.lt; omega
        have o24 := o2.mod m4 (fun b hb e => by have e1 : b2 = b := Option.some.inj hb; have e2 : b = x.m := e; omega)
        have agp := ago3.put (c := c) (v := .slice (some ⟨b2, 0, none⟩) (1 * 512) c2) (d := L2) (yf yo yonm) m4' (by rw [yom]; exact mp4) o24 (by rw [hL2, yocs]) (fun b hb hbz => by
          have e1 : b2 = b := Option.some.inj hb
          have := (ago.im yo (findI_mem (yf yo yonm)).1).zlt b hbz
          omega)
        rw [setI_setI (show (yo.put c _ _).nm = yo.nm from rfl)] at agp
        obtain ⟨yp, hyp⟩ : ∃ yp, yp = yo.put c (.slice (some ⟨b2, 0, none⟩) (1 * 512) c2) L2 := ⟨_, rfl⟩
        rw [← hyp] at agp
        have ypnm : yp.nm = x.nm := by rw [hyp]; exact yonm
        have ypb : yp.b = x.b := by rw [hyp]; exact yob
        have cp := (agp.im yp (findI_mem (yf yp ypnm)).1).cells
        rw [ypb] at cp
        have r1 := cellOf (i := 1) cp rfl
        have rw1 := frzOf (i := 1) cp
        simp (disch := omega) [r1, rw1]
        obtain ⟨yq, hyq⟩ : ∃ yq, yq = y.put c (.slice (some ⟨b2, 0, none⟩) (1 * 512) c2) L2 := ⟨_, rfl⟩
        have e9 : yp.on new = yq := by rw [hyp, hyo, hyq, hy]; rfl
        have agq : WdAt (hset g4 ⟨x.b, 1, none⟩ (str new)) w wm (setI yq xs) := by
          have h1 := wdOn (bk := new) agp (yf yp ypnm) (by rw [setI_setI (show (yp.on new).nm = yp.nm from rfl)]; exact wlN _ ypnm rfl)
          rw [setI_setI (show (yp.on new).nm = yp.nm from rfl), ypb, e9] at h1
          exact h1
        refine hX (c + 1, yq) _ _ (by simp) ⟨hlt, agq, (mg2.trans m4 (fun b _ e => .inr e)).trans (Mod.set g4 ⟨x.b, 1, none⟩ (str new)) (fun b _ e => .inl e), ⟨yq.F, yq.G, by rw [hyq, hy]; rfl⟩, fun k hk => ?_, fun k hk => ?_, fun i hi => ?_⟩ (by dsimp only; omega)
        · dsimp only at hk
          have hp := put_conts (c := c) (v := .slice (some ⟨b2, 0, none⟩) (1 * 512) c2) (d := L2) ag.wl (yf y ynm) k
          rw [setI_setI (show (y.put c _ _).nm = y.nm from rfl), ← hyq, ynm, yn, if_pos (by omega), ycs, Nat.div_one, Nat.mod_one] at hp
          rw [hp]
          by_cases e : k = c
          · rw [if_pos e, hL2c, e]
          · rw [if_neg e]; exact hdn k (by omega)
        · dsimp only at hk
          obtain ⟨h1, h2⟩ := hsm k (by omega)
          rw [hyq]
          constructor
          · show look2 (k : Int) (upd (c : Int) _ y.F) = _
            rw [look2_upd, if_neg (by omega)]; exact h1
          · rw [← h2]
            unfold Im.put
            dsimp only
            rw [if_neg (by omega)]
        · rw [hyq] at hi
          have hi' : look2 i (upd (c : Int) (Value.slice (some ⟨b2, 0, none⟩) (1 * 512) c2) y.F) ≠ none := hi
          rw [look2_upd] at hi'
          by_cases e : i = (c : Int)
          · omega
          · rw [if_neg e] at hi'
            exact hry i hi'
  · obtain rfl : c = x.n := by omega
    simp (disch := omega)
    exact H g y ⟨F, G, hy⟩ ag hdn hry mg
end Go.Proofs.YtoonjlhfgjnnmaaGreat
set_option linter.unusedSimpArgs false
set_option linter.unusedVariables false
namespace Go.Proofs.YtoonjlhfgjnnmaaGreat
open Go.Vc
variable {K : Value → Heap → Prop} {h : Heap}

theorem look2_filter {p : Int × Value → Bool} {l : List (Int × Value)} {c : Int} {v : Value} (hn : (l.map (·.1)).Nodup) : look2 c (l.filter p) = some v ↔ look2 c l = some v ∧ p (c, v) = true := by
  have hn' : ((l.filter p).map (·.1)).Nodup := hn.sublist ((List.filter_sublist).map _)
  rw [look2_some hn', look2_some hn, List.mem_filter]
/-- Some clusters gone. -/
theorem wdLess {w wm : Nat} {xs : List Im} {x : Im} {F : List (Int × Value)} {h' : Heap} (a : WdAt h w wm xs) (hx : findI x.nm xs = some x) (hm : MapK ik h' x.m F) (m : Mod (· = x.m) h h') (hF : ∀ c v, look2 c F = some v → look2 c x.F = some v) : WdAt h' w wm (setI { x with F := F } xs) := by
  have ax := a.im x (findI_mem hx).1
  have hmm : ∀ b arr t, h[b]? = some (.cells arr t) → b ≠ x.m := fun b arr t hb e => by
    obtain ⟨es, cl, h1, _⟩ := ax.cl.map
    rw [e, h1] at hb
    cases hb
  have hnd := ax.bnd
  simp only [List.nodup_cons] at hnd
  refine a.upd hx rfl rfl (a.wl.set (show findI x.nm xs = some x from hx) rfl) m (fun b _ e => .inr (.inl e)) ⟨(m.block _ (get_some_lt ax.cells) (fun e => ax.mne e.symm)).trans ax.cells, ⟨hm, fun c v hv => ?_, fun c v b hv => ax.cl.out c v b (hF c v hv)⟩, ax.n, ax.bits, ax.cs, ax.sn.mod m (fun b hb e => ?_), fun s hs => (ax.snc s hs).mod m (fun e => ?_) (fun b arr hb _ e => hmm b arr _ hb e), ax.bm.mod m (fun b hb e => ?_), fun b hb => (ax.bmd b hb).mod m (fun e => hnd.1 (List.mem_append_right _ (by rw [← e]; exact List.mem_map_of_mem hb))), ax.mne, ax.bnd, fun b hb => Nat.lt_of_lt_of_le (ax.zlt b hb) m.size⟩ (fun b hb => .inl hb)
  · obtain ⟨o1, o2⟩ := ax.cl.byt c v (hF c v hv)
    exact ⟨o1.mod m (fun b hb e => by obtain ⟨arr, ha⟩ := o1.tag hb; exact hmm b arr _ ha e), o2⟩
  · obtain ⟨arr, ha⟩ := ax.sn.tag hb
    exact hmm b arr _ ha e
  · exact hnd.1 (List.mem_append_left _ (by rw [← e]; exact List.mem_map_of_mem hs))
  · obtain ⟨arr, ha⟩ := ax.bm.tag hb
    exact hmm b arr _ ha e
set_option maxHeartbeats 2000000 in
theorem Resize1_c {w wm : Nat} {xs : List Im} {x : Im} {nm : List UInt8} (a : WdAt h w wm xs) (hn : OkN nm) (en : x.nm = nm) (hx : findI nm xs = some x) (hab : ∀ y ∈ xs, y.bk ≠ nm) (hB : x.B = []) (hx1 : x.bits = 9 ∧ x.cs = 1) (hxn : 1 < x.n) (hown : x.isOwn 0 = true) (hfew : x.F.length < 1000000)
    (H : ∀ h' x', (∃ F G, x' = { x with n := 1, F := F, G := G }) → WdAt h' w wm (setI x' xs) → Mod (fun b => b = x.b ∨ b = x.m) h h' → K (.int .i64 0) h') :
    CallsH Tryz.prog 23 #[ptrV w, str nm, .int .i64 512] h K ⟨⟩ := by
  subst en
  refine n23_calls ?_
  unfold n23
  have hxm := (findI_mem hx).1
  rw [show (.int .i64 512 : Value) = .int .i64 ((1 * 512 : Nat) : Int) from rfl]
  refine sized_c (by omega) ?_
  refine free_c a hn hx (by omega) (by omega) hab (fun h1 e1 hno => absurd ⟨by omega, by omega⟩ hno) (fun h1 e1 _ => ?_)
  have ax := a.im x hxm
  simp (disch := omega)
  refine JoinN.mk ?_
  simp (disch := omega)
  refine n49_calls ?_
  unfold n49
  have a1 := a.ext e1
  have ax1 := a1.im x hxm
  have hnb := ax1.n
  obtain ⟨N, hN⟩ : ∃ N, N = x.n * 512 := ⟨_, rfl⟩
  have cc := ax1.cells
  rw [← hN] at cc
  have c2 := cellOf (i := 2) cc rfl
  have f2 := frzOf (i := 2) cc
  unfold ptrV
  simp (disch := omega) [c2, f2]
  obtain ⟨x1, hx1'⟩ : ∃ x1 : Im, x1 = { x with n := 1 } := ⟨_, rfl⟩
  have i1 : ImAt (hset h1 ⟨x.b, 2, none⟩ (.int .i64 512)) x1 := by
    rw [hx1']
    exact ax1.cellset (x' := { x with n := 1 }) rfl (by omega) (by show _ = #[str x.nm, str x.bk, .int .i64 ((1 * 512 : Nat) : Int), .int .i64 x.bits, .map (some x.m), x.sv, x.bv]; rw [show ((1 * 512 : Nat) : Int) = 512 by decide]; rfl) (by show (1 : Nat) ≤ 131072; omega) ⟨rfl, rfl, rfl, rfl, rfl⟩ ⟨rfl, rfl, rfl, rfl, rfl⟩
  have x1n : x1.nm = x.nm := by rw [hx1']
  have x1f0 : findI x1.nm xs = some x := by rw [x1n]; exact hx
  have M1 : Mod (· = x.b) h1 (hset h1 ⟨x.b, 2, none⟩ (.int .i64 512)) := Mod.set h1 ⟨x.b, 2, none⟩ _
  have a2 : WdAt (hset h1 ⟨x.b, 2, none⟩ (.int .i64 512)) w wm (setI x1 xs) := a1.upd hx x1n (by rw [hx1']) (a1.wl.set x1f0 (by rw [hx1'])) M1 (fun b _ e => .inl e) i1 (fun b hb => .inl (by rw [hx1'] at hb; exact hb))
  refine (⟨_, rfl⟩ : ∃ f, f = hset h1 ⟨x.b, 2, none⟩ (.int .i64 512)).elim fun g0 eg => ?_
  rw [← eg] at i1 M1 a2 ⊢
  clear eg
  have x1f : findI x1.nm (setI x1 xs) = some x1 := by rw [findI_setI x1f0, if_pos rfl]
  have x1b : x1.b = x.b := by rw [hx1']
  have x1m : x1.m = x.m := by rw [hx1']
  have x1F : x1.F = x.F := by rw [hx1']
  have x1c : x1.cs = 1 := by rw [hx1']; exact hx1.2
  refine n72_calls ?_
  unfold n72
  rw [show (.pointer (some ⟨x.b, 0, none⟩) : Value) = ptrV x1.b by rw [x1b]; rfl]
  refine clusters_c i1 ?_
  rw [x1c, show x1.n = 1 by rw [hx1'], show ((1 + 1 - 1) / 1 : Nat) = 1 from rfl, x1b]
  have cy := i1.cells
  rw [x1b, x1m] at cy
  have d4 := cellOf (i := 4) cy rfl
  have hxb : ¬ x.b = g0.size := by have := get_some_lt cy; omega
  unfold ptrV
  simp (disch := omega) [d4, hxb]
  refine (⟨_, rfl⟩ : ∃ f, f = hset (g0.push (.cells #[.int .i64 0] 2)) ⟨g0.size, 0, none⟩ (.int .i64 1)).elim fun g1 eg => ?_
  have e2 : Ext g0 g1 := by rw [eg]; exact (by repeat' (first | (with_reducible exact Ext.refl _) | (with_reducible assumption) | (with_reducible refine push_ext ?_) | (with_reducible refine hset_ext ?_ ?_) | (with_reducible refine Ext.trans ?_ (by assumption)) | omega | (simp; done) | (simp; omega) | (refine Ext.size ?_) | (refine Nat.le_succ_of_le (Ext.size ?_))))
  have kn : hcell g1 ⟨g0.size, 0, none⟩ = some (.int .i64 1) := by rw [eg]; simp
  have hgl : g0.size < g1.size := by rw [eg]; simp
  rw [← eg]
  clear eg
  have mp1 := (i1.ext e2).cl.map
  rw [x1m, x1F] at mp1
  have hml := i1.cl.map.lt
  rw [x1m] at hml
  refine delC_c (l := x.F) (d := fun c _ => decide (1 ≤ c)) mp1 hfew (fun p hp g K1 m1 hk => ?_) fun g2 mp2 m2 => ?_
  · refine InvokeH_func (by kernel_rfl) ?_
    show CallsH Tryz.prog 81 #[ik p.1, p.2, .pointer (some ⟨g0.size, 0, none⟩)] g K1 ⟨⟩
    refine n81_calls ?_
    unfold n81
    have r1 : hcell g ⟨g0.size, 0, none⟩ = some (.int .i64 1) := by rw [m1.cell (a := ⟨g0.size, 0, none⟩) hgl (fun e => by rcases e with e | e <;> simp at e <;> omega)]; exact kn
    rw [show ik p.1 = .int .i64 p.1 from rfl]
    have hk' := hk g (.refl _)
    by_cases h9 : 1 ≤ p.1
    · rw [decide_eq_true h9] at hk'
      simp (disch := omega) [r1, h9]
      exact hk'
    · rw [decide_eq_false h9] at hk'
      simp (disch := omega) [r1, h9]
      exact hk'
  · obtain ⟨F1, hF1⟩ : ∃ F1, F1 = x.F.filter (fun p => !decide (1 ≤ p.1)) := ⟨_, rfl⟩
    rw [← hF1] at mp2
    have hnd := (a.im x hxm).cl.map.nodup
    have hsub : ∀ c v, look2 c F1 = some v → look2 c x1.F = some v := fun c v hv => by
      rw [hF1, look2_filter hnd] at hv
      rw [x1F]; exact hv.1
    have a3 := wdLess (F := F1) (a2.ext e2) x1f (by rw [x1m]; exact mp2) (by rw [x1m]; exact m2) hsub
    obtain ⟨x2, hx2⟩ : ∃ x2 : Im, x2 = { x1 with F := F1 } := ⟨_, rfl⟩
    have x2n : x2.nm = x1.nm := by rw [hx2]
    rw [← hx2, setI_setI x2n] at a3
    have x2f0 : findI x2.nm xs = some x := by rw [x2n]; exact x1f0
    have x2f : findI x2.nm (setI x2 xs) = some x2 := by rw [findI_setI x2f0, if_pos rfl]
    have x2b : x2.b = x.b := by rw [hx2]; exact x1b
    have x2m : x2.m = x.m := by rw [hx2]; exact x1m
    have x2F : x2.F = F1 := by rw [hx2]
    have x2c : x2.cs = 1 := by rw [hx2]; exact x1c
    have i2 := a3.im x2 (findI_mem x2f).1
    have cz := i2.cells
    rw [x2b, x2m, show x2.n = 1 by rw [hx2, hx1']] at cz
    have z2 := cellOf (i := 2) cz rfl
    have z3 := cellOf (i := 3) cz rfl
    have z4 := cellOf (i := 4) cz rfl
    rw [show x2.bits = x.bits by rw [hx2, hx1']] at z3
    have kn2 : hcell g2 ⟨g0.size, 0, none⟩ = some (.int .i64 1) := by rw [m2.cell (a := ⟨g0.size, 0, none⟩) hgl (fun e => by have e' : g0.size = x.m := e; omega)]; exact kn
    refine JoinN.mk ?_
    obtain ⟨u, hu⟩ : ∃ u, look2 (0 : Int) F1 = some u := by
      obtain ⟨u, hu⟩ := Option.isSome_iff_exists.1 (show (look2 ((0 : Nat) : Int) x.F).isSome = true from hown)
      refine ⟨u, ?_⟩
      rw [hF1, look2_filter hnd]
      exact ⟨hu, rfl⟩
    have mp2' := i2.cl.map
    rw [x2m, x2F] at mp2'
    have hlk := fun (q : Bool) (K : Value → Heap → Prop) => Hp_lookup (P := Tryz.prog) (q := q) (K := K) (k := (0 : Int)) (ok := true) clKey (z := .slice none 0 0) (by kernel_rfl) mp2'
    rw [hu] at hlk
    simp (disch := omega) [z4, kn2]
    rw [hlk]
    simp (disch := omega)
    obtain ⟨ou, hul⟩ := i2.cl.byt 0 u (by rw [x2F]; exact hu)
    rw [x2c] at hul
    obtain ⟨ua, un, uc, rfl, hun, huc, hub⟩ := ou.form (by omega)
    rw [List.length_map, hul, Nat.mul_one] at hun
    obtain rfl : un = 512 := by omega
    obtain ⟨bu, rfl⟩ := hub (by intro e; have := congrArg List.length e; simp at this; rw [this] at hul; simp at hul)
    refine clone_c ou (by omega) (by omega) fun b2 e2' g3 o3 e3 f3 => ?_
    have i3 := i2.ext e3
    have cw := i3.cells
    rw [x2b, x2m, show x2.n = 1 by rw [hx2, hx1']] at cw
    have w2 := cellOf (i := 2) cw rfl
    have w3 := cellOf (i := 3) cw rfl
    have w4 := cellOf (i := 4) cw rfl
    rw [show x2.bits = x.bits by rw [hx2, hx1']] at w3
    have kn3 := hcell_ext e3 kn2
    have hb9 := hx1.1
    have hW : 2 ^ x.bits = 512 := by rw [hb9]
    have hs1 := fun (q : Bool) (tt : Nat) (o1 o2 : Go.Operand) (g : Heap) (K : Value → Heap → Prop) => Hp_shlW (P := Tryz.prog) (q := q) (t := tt) (x := o1) (y := o2) (k' := .i64) (K := K) (h := g) (a := 0) hW (by omega) (by omega) (by omega)
    have hcap := o3.seg.2.1
    simp (disch := omega) [w2, w3, kn3, hs1]
    refine Hp_clearAt (e := u8T) (e2 := u8T) (lo := 512) (m := 0) (by kernel_rfl) (by kernel_rfl) o3 (by omega) fun g4 o4 m4 => ?_
    have hov : over (x2.G 0) 512 (List.replicate 0 0) = x2.G 0 := by unfold over; simp
    rw [hov] at o4
    have e4 : Ext g2 g4 := m4.ext_from e3 (fun b hb e => by have e' : b = b2 := e; omega)
    have i4 := i2.ext e4
    have cv := i4.cells
    rw [x2b, x2m] at cv
    have v4 := cellOf (i := 4) cv rfl
    have kn4 := hcell_ext e4 kn2
    have mp4 := i4.cl.map
    rw [x2m] at mp4
    simp (disch := omega) [v4, kn4]
    refine Hp_mapUpdate clKey mp4 fun g5 mp5 m5 => ?_
    have a4 := a3.ext e4
    have m5' : Mod (· = x2.m) g4 g5 := by rw [x2m]; exact m5
    have hmg : x.m < g2.size := by have := i2.cl.map.lt; omega
    have o5 := o4.mod m5 (fun b hb e => by have e1 : b2 = b := Option.some.inj hb; have e2 : b = x.m := e; omega)
    have a5 := a4.put (c := 0) (v := .slice (some ⟨b2, 0, none⟩) 512 e2') (d := x2.G 0) x2f m5' (by rw [x2m]; exact mp5) o5 (by rw [hul, x2c]) (fun b hb hbz => by
      have e1 : b2 = b := Option.some.inj hb
      have := i2.zlt b hbz
      omega)
    rw [setI_setI (show (x2.put 0 _ _).nm = x2.nm from rfl)] at a5
    obtain ⟨x3, hx3⟩ : ∃ x3 : Im, x3 = x2.put 0 (.slice (some ⟨b2, 0, none⟩) 512 e2') (x2.G 0) := ⟨_, rfl⟩
    rw [← hx3] at a5
    have x3n : x3.nm = x2.nm := by rw [hx3]; rfl
    have x3f0 : findI x3.nm xs = some x := by rw [x3n]; exact x2f0
    have x3f : findI x3.nm (setI x3 xs) = some x3 := by rw [findI_setI x3f0, if_pos rfl]
    have x3b : x3.b = x.b := by rw [hx3]; exact x2b
    have x3B : x3.B = [] := by rw [hx3]; show x2.B = []; rw [hx2, hx1']; exact hB
    rw [show (.pointer (some ⟨x.b, 0, none⟩) : Value) = ptrV x3.b by rw [x3b]; rfl]
    refine trim0_c (a5.im x3 (findI_mem x3f).1) x3B fun g6 e6 => ?_
    refine H g6 x3 ⟨x3.F, x3.G, by rw [hx3, hx2, hx1']; rfl⟩ (a5.ext e6) ?_
    exact ((((Mod.of_ext e1).trans M1 (T := fun b => b = x.b) (S := fun b => b = x.b ∨ b = x.m) (fun b _ e => .inl e)).extIn e2).trans m2 (fun b _ e => .inr e)).extIn e4 |>.trans m5 (fun b _ e => .inr e) |>.extIn e6
end Go.Proofs.YtoonjlhfgjnnmaaGreat
