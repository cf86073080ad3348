/- Store: the sorted names. Store: a going over pieces. Store: how many pieces there are. Store: picks. Store: crashed. Store: the laws' calls. -/
import Derived.Test.YtcbbdnaelimpfaaGreatStoB
import Derived.Test.YtcbbdnaelimpfaaGreatSrtD
import Derived.Test.YtcbbdnaelimpfaaGreatVcRange
import Derived.Test.YtcbbdnaelimpfaaGreatOpen
set_option linter.unusedSimpArgs false
set_option linter.unusedVariables false
namespace Go.Proofs.YtcbbdnaelimpfaaGreat
open Go.Vc
variable {K : Value → Heap → Prop} {h : Heap}

def stT : Nat := 9
def lsT : Nat := 105
theorem range_filterS {α : Type} : ∀ (H : List α), (List.range H.length).filterMap (fun i => H[i]?) = H
  | [] => rfl
  | x :: l => by
    rw [List.length_cons, List.range_succ_eq_map, List.filterMap_cons]
    simp only [List.getElem?_cons_zero, List.filterMap_map]
    congr 1
    exact range_filterS l
set_option maxHeartbeats 2000000 in
theorem AppendKeys_c {b m : Nat} {l : List (List UInt8 × Value)} (hb : h[b]? = some (.cells #[.map (some m)] 153)) (hm : MapK str h m l) (hl : l.length < 100000)
    (H : ∀ h' v (L : List (List UInt8)), Ext h h' → L.Perm (l.map (·.1)) → OwnT stT 1 h' v (L.map str) → (∀ b, blkV v = some b → h.size ≤ b) → K v h') :
    CallsH Tryz.prog 141 #[.slice none 0 0, .func (.func 120) #[] #[ptrV b]] h K ⟨⟩ := by
  refine n141_calls ?_
  unfold n141
  simp (disch := omega)
  refine JoinN_in1 (fun D g => D = consD (h.size + 1) (.tuple #[]) ∧ g[h.size + 1]? = some (.deferred (some [])) ∧ Ext h g ∧ ∃ v, ∃ L : List (List UInt8), g[h.size]? = some (.cells #[v] lsT) ∧ L.Perm (l.map (·.1)) ∧ OwnT stT 1 g v (L.map str) ∧ (∀ b, blkV v = some b → h.size + 2 ≤ b)) (fun kk hkk => ?_) (fun D g hD => ?_)
  · refine JoinN.mk ?_
    have hbl := get_some_lt hb
    have hml := hm.lt
    refine (⟨_, rfl⟩ : ∃ g, g = h.push (.cells #[.slice none 0 0] lsT)).elim fun h0 eh0 => ?_
    have e0 : Ext h h0 := by rw [eh0]; exact (by repeat' (first | (with_reducible exact Ext.refl _) | (with_reducible assumption) | (with_reducible refine push_ext ?_) | (with_reducible refine hset_ext ?_ ?_) | (with_reducible refine Ext.trans ?_ (by assumption)) | omega | (simp; done) | (simp; omega) | (refine Ext.size ?_) | (refine Nat.le_succ_of_le (Ext.size ?_))))
    have z0 : h0.size = h.size + 1 := by rw [eh0]; simp
    have q0 : h0[h.size]? = some (.cells #[.slice none 0 0] lsT) := by rw [eh0]; exact get_pushed rfl
    rw [show h.push (.cells #[.slice none 0 0] 105) = h0 from eh0.symm]
    clear eh0
    refine RangeC_none rfl fun oR oB oE oX oF Kp hoR hoB hrd hN hR hX => ?_
    refine (⟨_, rfl⟩ : ∃ g, g = (h0.push (.deferred (some []))).push oR).elim fun h1 eh1 => ?_
    have e1 : Ext h0 h1 := by rw [eh1]; exact (by repeat' (first | (with_reducible exact Ext.refl _) | (with_reducible assumption) | (with_reducible refine push_ext ?_) | (with_reducible refine hset_ext ?_ ?_) | (with_reducible refine Ext.trans ?_ (by assumption)) | omega | (simp; done) | (simp; omega) | (refine Ext.size ?_) | (refine Nat.le_succ_of_le (Ext.size ?_))))
    have z1 : h1.size = h.size + 3 := by rw [eh1]; simp [z0]
    have rD : h1[h.size + 1]? = some (.deferred (some [])) := by rw [eh1, get_push (by simp; omega), get_pushed (by omega)]
    have rL : h1[h.size + 2]? = some oR := by rw [eh1, get_pushed (by simp; omega)]
    rw [← eh1]
    clear eh1
    rw [z0] at hrd hN ⊢
    refine InvokeH_k1 (by kernel_rfl) ?_
    refine n120_calls ?_
    unfold n120 ptrV
    have c0 := cellOf (i := 0) (((e0.trans e1).block b hbl).trans hb) rfl
    simp (disch := omega) [c0]
    refine Hp_rangeM (by kernel_rfl) ((hm.ext e0).ext e1) fun h2 e2 hit hs2 => ?_
    have q2 := (e2.block h.size (by omega)).trans ((e1.block h.size (by omega)).trans q0)
    refine loopMap0 (fun I g => Ext h g ∧ g[h.size + 1]? = some (.deferred (some [])) ∧ g[h.size + 2]? = some oR ∧ ∃ v, g[h.size]? = some (.cells #[v] lsT) ∧ OwnT stT 1 g v ((I.filterMap (fun i => (l.map (·.1))[i]?)).map str) ∧ (∀ b, blkV v = some b → h.size + 2 ≤ b)) hit ⟨(e0.trans e1).trans e2, (e2.block _ (by omega)).trans rD, (e2.block _ (by omega)).trans rL, _, q2, .nil, fun b hb => by cases hb⟩ ?_
    rintro I g hI hn hlt ⟨eg, gD, gL, v, gv, ov, fv⟩ X hX
    have hIl := nodup_len hn hlt
    refine Hp_next hI (fun i hi hiI g' m' hI' => ?_) (fun hall => ?_)
    · simp (disch := omega)
      rw [Hp_entry hI' hi]
      simp (disch := omega)
      have mI : ∀ b, b = h2.size - 1 ∨ True := fun _ => .inr trivial
      have hq : h.size < g.size := get_some_lt gv
      obtain ⟨es, cl, m1, -, -, -, m6, -, -⟩ := hI
      have hitq : h.size ≠ h1.size := by omega
      have gv' := (m'.block h.size hq hitq).trans gv
      have gD' := (m'.block (h.size + 1) (get_some_lt gD) (by omega)).trans gD
      have gL' := (m'.block (h.size + 2) (get_some_lt gL) (by omega)).trans gL
      have hvit : ∀ b, blkV v = some b → b ≠ h1.size := fun b hb e => by
        obtain ⟨arr, ha⟩ := ov.tag hb
        rw [e, m6] at ha; cases ha
      have ov' := ov.mod m' (fun b hb e => hvit b hb e)
      have eg' : Ext h g' := m'.ext_from eg (fun b hb e => by omega)
      refine hrd [str (l[i]).1] g' _ rfl gL' ⟨gL', ?_⟩
      refine (⟨_, rfl⟩ : ∃ f, f = g'.setIfInBounds (h.size + 1 + 1) oB).elim fun gB egB => ?_
      have mB : Mod (· = h.size + 2) g' gB := by rw [egB]; exact Mod.put _ _ _
      have gLB : gB[h.size + 2]? = some oB := by rw [egB]; exact get_put (get_some_lt gL')
      rw [← egB]
      clear egB
      have gvB := (mB.block h.size (get_some_lt gv') (by omega)).trans gv'
      have gDB := (mB.block (h.size + 1) (get_some_lt gD') (by omega)).trans gD'
      have hvl : ∀ b, blkV v = some b → b ≠ h.size + 2 := fun b hb e => by
        obtain ⟨arr, ha⟩ := ov'.tag hb
        rw [e, gL'] at ha
        cases ha; cases hoR
      have ovB := ov'.mod mB (fun b hb e => hvl b hb e)
      have hIB := hI'.mod mB (fun e => by omega) (fun e => by omega)
      have eB : Ext h gB := mB.ext_from eg' (fun b hb e => by omega)
      have c0 := cellOf (i := 0) gvB rfl
      obtain ⟨va, vn, vc, rfl, hvn, -, -⟩ := ov.form (by omega)
      simp (disch := omega) [c0, getV]
      have hkl : (I.filterMap (fun i => (l.map (·.1))[i]?)).length ≤ I.length := List.length_filterMap_le _ _
      have hf : (I ++ [i]).filterMap (fun i => (l.map (·.1))[i]?) = I.filterMap (fun i => (l.map (·.1))[i]?) ++ [(l[i]).1] := by
        rw [List.filterMap_append]
        congr 1
        rw [List.filterMap_cons, List.getElem?_map, List.getElem?_eq_getElem hi]
        rfl
      refine Hp_appP (e := stT) (by_ := 16) (by kernel_rfl) (by kernel_rfl) ovB rfl (by rw [List.length_map]; omega) (by omega) fun v' h3 o3 m3 f3 => ?_
      have hvq : ∀ b, blkV (.slice va vn vc) = some b → b ≠ h.size := fun b hb => ovB.ne hb gvB (by decide)
      have hvD : ∀ b, blkV (.slice va vn vc) = some b → b ≠ h.size + 1 := fun b hb e => by
        obtain ⟨arr, ha⟩ := ovB.tag hb
        rw [e, gDB] at ha; cases ha
      have gv3 := (m3.block h.size (get_some_lt gvB) (fun e => hvq _ e rfl)).trans gvB
      have gD3 := (m3.block (h.size + 1) (get_some_lt gDB) (fun e => hvD _ e rfl)).trans gDB
      have gL3 := (m3.block (h.size + 2) (get_some_lt gLB) (fun e => by
        obtain ⟨arr, ha⟩ := ovB.tag e
        rw [gLB] at ha; cases ha; cases hoB)).trans gLB
      have k0 := cellOf (i := 0) gv3 rfl
      have f0 := frzOf (i := 0) gv3
      obtain ⟨wa, wn, wc, rfl, -, -, -⟩ := o3.form (by omega)
      have hmm : m ≠ h.size := by omega
      have hvm : ∀ b, blkV (.slice va vn vc) = some b → b ≠ m := fun b hb e => by
        obtain ⟨es', cl', n1, -⟩ := hIB
        obtain ⟨arr, ha⟩ := ovB.tag hb
        rw [e, n1] at ha; cases ha
      have hvi : ∀ b, blkV (.slice va vn vc) = some b → b ≠ h1.size := fun b hb e => by
        obtain ⟨es', cl', -, -, -, -, n6, -⟩ := hIB
        obtain ⟨arr, ha⟩ := ovB.tag hb
        rw [e, n6] at ha; cases ha
      have hI3 := hIB.mod m3 (fun e => hvi _ e rfl) (fun e => hvm _ e rfl)
      have hbz := eB.size
      have e3 : Ext h h3 := m3.ext_from eB (fun b hb e => by have := fv b e; omega)
      simp (disch := omega) [k0, f0]
      have gL4 : (hset h3 ⟨h.size, 0, none⟩ (.slice wa wn wc))[h.size + 2]? = some oB := (get_hset' (by omega)).trans gL3
      refine ⟨gL4, ?_⟩
      have m4 : Mod (fun b => b = h.size ∨ b = h.size + 2) h3 ((hset h3 ⟨h.size, 0, none⟩ (.slice wa wn wc)).setIfInBounds (h.size + 1 + 1) oR) := Mod.putIn (Mod.setIn (Mod.refl _ _) (.inl (.inl rfl))) (.inl (.inr rfl))
      have hwq : ∀ b, blkV (.slice wa wn wc) = some b → b ≠ h.size ∧ b ≠ h.size + 2 := fun b hb => ⟨o3.ne hb gv3 (by decide), fun e => by
        obtain ⟨arr, ha⟩ := o3.tag hb
        rw [e, gL3] at ha; cases ha; cases hoB⟩
      refine hX i _ hiI hi (hI3.mod m4 (fun e => by omega) (fun e => by omega)) ⟨m4.ext_from e3 (fun b hb e => by omega), ?_, get_put (by rw [hset_size]; exact get_some_lt gL3), .slice wa wn wc, ?_, ?_, ?_⟩
      · exact (m4.block (h.size + 1) (get_some_lt gD3) (by omega)).trans gD3
      · exact (get_putne (by omega)).trans (obj_set gv3)
      · rw [hf, List.map_append]
        exact o3.mod m4 (fun b hb e => by have := hwq b hb; omega)
      · exact fun b hb => (f3 b hb).elim (fv b) (fun e => by have := get_some_lt gLB; omega)
    · simp (disch := omega)
      refine hN _ _ gL ?_
      dsimp only
      have gLl := get_some_lt gL
      have hlen : (l.map (·.1)).length = l.length := List.length_map _
      have hperm : (I.filterMap (fun i => (l.map (·.1))[i]?)).Perm (l.map (·.1)) := by
        have hp : I.Perm (List.range (l.map (·.1)).length) := by
          refine (List.perm_ext_iff_of_nodup hn List.nodup_range).2 fun i => ⟨fun hi => ?_, fun hi => hall i (by simp at hi; omega)⟩
          have := hlt i hi
          simp; omega
        have h2 := hp.filterMap (fun i => (l.map (·.1))[i]?)
        rw [range_filterS] at h2
        exact h2
      refine hkk _ _ ⟨rfl, (get_putne (by omega)).trans gD, Mod.ext_from eg (Mod.put _ _ _) (fun b hb e => by omega), v, _, (get_putne (by omega)).trans gv, hperm, ov.mod (Mod.put _ _ _) (fun b hb e => ?_), fv⟩
      obtain ⟨arr, ha⟩ := ov.tag hb
      have e' : b = h.size + 1 + 1 := e
      rw [e', gL] at ha; cases ha; cases hoR
  · obtain ⟨rfl, hd, eg, v, L, hv, hp, ho, hf⟩ := hD
    have c0 := cellOf (i := 0) hv rfl
    simp (disch := omega) [c0]
    refine RetD_one' hd ?_
    have md := Mod.put g (h.size + 1) (.deferred none)
    refine H _ v L (md.ext_from eg (fun b hb e => by omega)) hp (ho.mod md (fun b hb e => ?_)) (fun b hb => by have := hf b hb; omega)
    obtain ⟨arr, ha⟩ := ho.tag hb
    rw [e, hd] at ha; cases ha

theorem Names_c {p : Nat} {s : St} (a : StAt h p s) (H : ∀ h' v (L : List (List UInt8)), Ext h h' → L.Perm (s.F.map (·.name)) → L.Pairwise (fun x y => Op.bytesLess y x = false) → OwnT stT 1 h' v (L.map str) → (∀ b, blkV v = some b → h.size ≤ b) → K v h') :
    CallsH Tryz.prog 48 #[ptrV p] h K ⟨⟩ := by
  refine n48_calls ?_
  unfold n48
  refine none_c a.cells ?_
  have c0 := cellOf (i := 0) a.cells rfl
  have hfew := a.few
  unfold ptrV
  simp (disch := omega) [c0]
  refine n89_calls ?_
  unfold n89
  simp (disch := omega)
  refine n88_calls ?_
  unfold n88
  refine n118_calls ?_
  unfold n118
  have e0 : Ext h (h.push (.cells #[.map (some s.m)] 153)) := (by repeat' (first | (with_reducible exact Ext.refl _) | (with_reducible assumption) | (with_reducible refine push_ext ?_) | (with_reducible refine hset_ext ?_ ?_) | (with_reducible refine Ext.trans ?_ (by assumption)) | omega | (simp; done) | (simp; omega) | (refine Ext.size ?_) | (refine Nat.le_succ_of_le (Ext.size ?_))))
  have hkl : s.keys.length = s.F.length := List.length_map _
  have hkn : s.keys.map (·.1) = s.F.map (·.name) := by unfold St.keys; rw [List.map_map]; rfl
  refine AppendKeys_c (b := h.size) (m := s.m) (l := s.keys) (get_pushed rfl) (a.map.ext e0) (by omega) fun h1 v L e1 p1 o1 f1 => ?_
  have hz0 := e0.size
  have hLl : L.length = s.F.length := by rw [p1.length_eq, List.length_map, hkl]
  refine sortStr_c o1 (by omega) fun h2 L' p2 q2 o2 m2 => ?_
  refine H h2 v L' (m2.ext_from (e0.trans e1) (fun b hb e => by have := f1 b e; omega)) (p2.trans (hkn ▸ p1)) q2 o2 (fun b hb => by have := f1 b hb; omega)
end Go.Proofs.YtcbbdnaelimpfaaGreat
set_option linter.unusedSimpArgs false
set_option linter.unusedVariables false
namespace Go.Proofs.YtcbbdnaelimpfaaGreat
open Go.Vc
variable {K : Value → Heap → Prop} {h : Heap}

def psT : Nat := 170
def peT : Nat := 150
def seqV (sb : Nat) : Value := .func (.func 121) #[] #[ptrV sb]
structure Pseq (h : Heap) (sb : Nat) (v : Value) (L : List (Int × Int)) : Prop where
  cell : h[sb]? = some (.cells #[v] psT)
  row : OwnG peT 2 h v (L.flatMap faV)
  few : L.length ≤ 1000000000000
theorem Pseq.mod {S : Nat → Prop} {h' : Heap} {sb : Nat} {v : Value} {L : List (Int × Int)} (a : Pseq h sb v L) (m : Mod S h h') (h1 : ¬ S sb) (h2 : ∀ b, blkG v = some b → ¬ S b) : Pseq h' sb v L :=
  ⟨(m.block _ (get_some_lt a.cell) h1).trans a.cell, a.row.mod m h2, a.few⟩
theorem Pseq.ext {h' : Heap} {sb : Nat} {v : Value} {L : List (Int × Int)} (a : Pseq h sb v L) (e : Ext h h') : Pseq h' sb v L := a.mod (S := fun _ => False) (.of_ext e) (fun x => x) (fun _ _ x => x)
theorem faV_cell {e : Nat} {L : List (Int × Int)} {n c : Nat} {a : Addr} (o : OwnG e 2 h (.slice (some a) n c) (L.flatMap faV)) {i : Nat} (hi : i < L.length) :
    hcell h (elt a (i * 2)) = some (.int .i64 L[i].1) ∧ hcell h (elt a (i * 2 + 1)) = some (.int .i64 L[i].2) := by
  obtain ⟨h1, h2⟩ := faV_get L i hi
  have hl := faV_len L
  have c1 := (o.cell (i := i * 2) (by omega)).1
  have c2 := (o.cell (i := i * 2 + 1) (by omega)).1
  rw [List.getElem?_eq_getElem (by omega)] at h1 h2
  rw [c1, c2]
  exact ⟨h1, h2⟩

set_option maxHeartbeats 2000000 in
theorem RangeP {D : Value} {B : Nat → List Value → ((Heap → Prop) → Heap → Prop) → (Heap → Prop) → (Code → Heap → Prop) → Heap → Prop} {aN aR : Value → Heap → Prop} {aE : Nat → Value → Heap → Prop} {sb : Nat} {v : Value} {L : List (Int × Int)} (hs : Pseq h sb v L) (Φ : Nat → Heap → Prop)
    (h0 : ∀ g, Ext h g → g.size = h.size + 2 → Φ 0 g) (hst : ∀ i g g', Φ i g → Ext g g' → Φ i g')
    (hround : ∀ i (hi : i < L.length) (g : Heap) (oR oB : Obj) (J : Code → Heap → Prop) (X : Heap → Prop), Φ i g → h.size + 2 ≤ g.size → g[h.size]? = some (.deferred (some [])) → g[h.size + 1]? = some oR → isLoop oR = true → isLoop oB = true →
      (∀ g' (S : Nat → Prop), Φ (i + 1) g' → g'[h.size + 1]? = some oR → Mod S g g' → ¬ S h.size → ¬ S sb → (∀ b, blkG v = some b → ¬ S b) → X g') →
      B (h.size + 1) [.agg #[.int .i64 L[i].1, .int .i64 L[i].2]] (fun k h1 => h1[h.size + 1]? = some oR ∧ k (h1.setIfInBounds (h.size + 1) oB)) (fun h4 => h4[h.size + 1]? = some oB ∧ X (h4.setIfInBounds (h.size + 1) oR)) J g)
    (hend : ∀ g oE, Φ L.length g → g[h.size]? = some (.deferred (some [])) → h.size + 1 < g.size → (∃ o, g[h.size + 1]? = some o ∧ isLoop o = true) → aN (consD h.size D) (g.setIfInBounds (h.size + 1) oE)) :
    RangeC Tryz.prog none (seqV sb) 1 D B aN aR aE h ⟨⟩ ⟨⟩ ⟨⟩ ⟨⟩ := by
  refine RangeC_none rfl fun oR oB oE oX oF Kp hoR hoB hrd hN hR hX => ?_
  refine InvokeH_k1 (by kernel_rfl) ?_
  refine (⟨_, rfl⟩ : ∃ g, g = (h.push (.deferred (some []))).push oR).elim fun g eg => ?_
  have zg : g.size = h.size + 2 := by simp [eg]
  have eg' : Ext h g := by rw [eg]; exact (by repeat' (first | (with_reducible exact Ext.refl _) | (with_reducible assumption) | (with_reducible refine push_ext ?_) | (with_reducible refine hset_ext ?_ ?_) | (with_reducible refine Ext.trans ?_ (by assumption)) | omega | (simp; done) | (simp; omega) | (refine Ext.size ?_) | (refine Nat.le_succ_of_le (Ext.size ?_))))
  have rD : g[h.size]? = some (.deferred (some [])) := by rw [eg, get_push (by simp), get_pushed rfl]
  have rL : g[h.size + 1]? = some oR := by rw [eg, get_pushed (by simp)]
  rw [← eg]
  have p0 := h0 g eg' zg
  have s1 := hs.ext eg'
  clear eg
  obtain ⟨va, vn, vc, rfl, hvl, hvc, hvne⟩ := hs.row.form
  have hfew := hs.few
  rw [faV_len] at hvl
  obtain rfl : vn = L.length := by omega
  have c1 := cellOf (i := 0) s1.cell rfl
  refine n121_calls ?_
  unfold n121 ptrV
  simp (disch := omega) [c1]
  refine loopX1 (α := Nat) (fun a => .int .i64 a) (fun i g' => i ≤ L.length ∧ Φ i g' ∧ g'[h.size]? = some (.deferred (some [])) ∧ g'[h.size + 1]? = some oR ∧ Pseq g' sb (.slice va L.length vc) L) (fun i => L.length - i) 0 rfl ⟨by omega, p0, rD, rL, s1⟩ ?_
  rintro i g' ⟨hi, hp, hd, hl, ho⟩ X hX
  have hlt := get_some_lt hl
  by_cases hil : i < L.length
  · have inv : ∀ (g2 : Heap) (K0 : Value → Heap → Prop), Ext g' g2 → (∀ g3 (S : Nat → Prop), Φ (i + 1) g3 → g3[h.size + 1]? = some oR → Mod S g2 g3 → ¬ S h.size → ¬ S sb → (∀ b, blkG (.slice va L.length vc) = some b → ¬ S b) → K0 (.bool true) g3) → InvokeH Tryz.prog (.func (.yield (h.size + 1)) #[] #[]) #[.agg #[.int .i64 L[i].1, .int .i64 L[i].2]] g2 K0 ⟨⟩ := fun g2 K0 e2 hk =>
      hrd [.agg #[.int .i64 L[i].1, .int .i64 L[i].2]] g2 K0 rfl ((e2.block _ hlt).trans hl) (hround i hil g2 oR oB _ (fun g3 => K0 (.bool true) g3) (hst _ _ _ hp e2) (by have := e2.size; omega) ((e2.block _ (by omega)).trans hd) ((e2.block _ hlt).trans hl) hoR hoB hk)
    obtain ⟨vb, vo, rfl⟩ := hvne (by intro e; have := faV_len L; rw [e] at this; simp at this; omega)
    obtain ⟨q0, q1⟩ := faV_cell ho.row hil
    simp (disch := omega) [q0, q1]
    refine (fun key => key _ ?_ : (∀ g2, Ext g' g2 → InvokeH Tryz.prog (.func (.yield (h.size + 1)) #[] #[]) #[.agg #[.int .i64 L[i].1, .int .i64 L[i].2]] g2 _ ⟨⟩) → _) (fun g2 e2 => ?_)
    · exact (by repeat' (first | (with_reducible exact Ext.refl _) | (with_reducible assumption) | (with_reducible refine push_ext ?_) | (with_reducible refine hset_ext ?_ ?_) | (with_reducible refine Ext.trans ?_ (by assumption)) | omega | (simp; done) | (simp; omega) | (refine Ext.size ?_) | (refine Nat.le_succ_of_le (Ext.size ?_))))
    · refine inv g2 _ e2 fun g3 S p3 l3 m3 s1 s2 s3 => ?_
      simp (disch := omega)
      refine hX (i + 1) _ _ (by simp) ⟨by omega, p3, ?_, l3, ?_⟩ (by omega)
      · exact (m3.block _ (by have := e2.size; omega) s1).trans ((e2.block _ (by omega)).trans hd)
      · exact (ho.ext e2).mod m3 s2 s3
  · have : i = L.length := by omega
    subst this
    simp (disch := omega)
    refine hN _ _ hl ?_
    exact hend g' oE hp hd hlt ⟨oR, hl, hoR⟩

def ppL (ps : List Pc) : List (Int × Int) := ps.map fun p => ((p.at_ : Int), (p.b.length : Int))
def St.psOf (s : St) (l : List UInt8) : List Pc := if okName l then (match s.get l with | some x => x.f.ps | none => []) else []
set_option maxHeartbeats 2000000 in
theorem Pieces_c {p : Nat} {s : St} {l : List UInt8} (a : StAt h p s) (hl : l.length < 9223372036854775808) (H : ∀ h' sb v, Ext h h' → Pseq h' sb v (ppL (s.psOf l)) → h.size ≤ sb → (∀ b, blkG v = some b → h.size ≤ b) → K (seqV sb) h') :
    CallsH Tryz.prog 49 #[ptrV p, str l] h K ⟨⟩ := by
  refine n49_calls ?_
  unfold n49
  refine JoinN_in1 (fun v g => Ext h g ∧ OwnG peT 2 g v ((ppL (s.psOf l)).flatMap faV) ∧ (∀ b, blkG v = some b → h.size ≤ b)) (fun kk hkk => ?_) (fun v g hv => ?_)
  · refine find_c3 a hl (fun h1 e1 ho => ?_) (fun h1 e1 ho hg => ?_) (fun h1 A B x e1 ho hg hF hn => ?_)
    · simp (disch := omega)
      have : s.psOf l = [] := by unfold St.psOf; rw [if_neg ho]
      rw [this] at hkk
      exact hkk _ _ ⟨e1, .nil, fun b hb => by cases hb⟩
    · simp (disch := omega)
      have : s.psOf l = [] := by unfold St.psOf; rw [if_pos ho, hg]
      rw [this] at hkk
      exact hkk _ _ ⟨e1, .nil, fun b hb => by cases hb⟩
    have hps : s.psOf l = x.f.ps := by unfold St.psOf; rw [if_pos ho, hg]
    rw [hps] at hkk
    have hx : x ∈ s.F := by rw [hF]; simp
    have hpf := a.pfew x hx
    have hst0 := a.stp
    have hfl := (a.ext e1).fl x hx
    have c1 := cellOf (i := 1) hfl.cells rfl
    obtain ⟨pa, pn, pc, hpv, hpl, hpc, hpne⟩ := hfl.ps.form
    rw [pcV_len] at hpl
    obtain rfl : pn = x.qs.length := by omega
    have c1' : hcell h1 ⟨x.b, 1, none⟩ = some (.slice pa x.qs.length pc) := hpv ▸ c1
    have op := hfl.ps
    rw [hpv] at op
    unfold ptrV
    simp (disch := omega) [c1']
    have hz1 := e1.size
    refine loopX2 (α := Nat × Value) (fun a => a.2) (fun a => .int .i64 a.1) (fun a g => a.1 ≤ x.qs.length ∧ Ext h1 g ∧ OwnG peT 2 g a.2 ((ppL (x.f.ps.take a.1)).flatMap faV) ∧ ∀ c, blkG a.2 = some c → h1.size ≤ c) (fun a => x.qs.length - a.1) (0, .slice none 0 0) ⟨rfl, rfl⟩ ⟨Nat.zero_le _, .refl _, .nil, fun c hc => by cases hc⟩ ?_
    rintro ⟨i, sv⟩ g ⟨hi, eg, os, hb⟩ X hX
    dsimp only at hi os hb hX ⊢
    by_cases hiq : i < x.qs.length
    · obtain ⟨pb, po, rfl⟩ := hpne (by intro e; have := pcV_len x.qs; rw [e] at this; simp at this; omega)
      have pg := op.ext eg
      obtain ⟨p1, p2⟩ := piece_cell (v := x.pv) pg hiq
      have hqm : x.qs[i] ∈ x.qs := List.getElem_mem hiq
      obtain ⟨qa, qc, hqv⟩ := (hfl.bs _ hqm).form
      obtain ⟨qok, qfit⟩ := hfl.ok.pc x.qs[i].1 (List.mem_map_of_mem hqm)
      have qone := qok.one
      rw [hqv] at p2
      simp (disch := omega) [p1, p2]
      have hps : x.f.ps = x.qs.map (·.1) := rfl
      have hpl' : x.f.ps.length = x.qs.length := by rw [hps, List.length_map]
      have ht : ppL (x.f.ps.take (i + 1)) = ppL (x.f.ps.take i) ++ [((x.qs[i].1.at_ : Int), (x.qs[i].1.b.length : Int))] := by
        unfold ppL
        rw [List.take_succ_eq_append_getElem (by omega), List.map_append]
        simp [hps]
      have hE1 : ∀ o : Obj, Ext g ((hset (hset (g.push (.cells #[.int .i64 0, .slice none 0 0] 162)) ⟨g.size, 0, none⟩ (.int .i64 x.qs[i].1.at_)) ⟨g.size, 1, none⟩ (.slice qa x.qs[i].1.b.length qc)).push o) := fun o => (by repeat' (first | (with_reducible exact Ext.refl _) | (with_reducible assumption) | (with_reducible refine push_ext ?_) | (with_reducible refine hset_ext ?_ ?_) | (with_reducible refine Ext.trans ?_ (by assumption)) | omega | (simp; done) | (simp; omega) | (refine Ext.size ?_) | (refine Nat.le_succ_of_le (Ext.size ?_))))
      have hlk : (ppL (x.f.ps.take i)).length ≤ 1000000000000 := by
        unfold ppL
        rw [List.length_map, List.length_take]; omega
      refine Hp_appendG (e := peT) (s := 2) (by_ := 16) (n := (ppL (x.f.ps.take i)).length) (k := 1) (news := [.int .i64 x.qs[i].1.at_, .int .i64 x.qs[i].1.b.length]) (by kernel_rfl) (by kernel_rfl) (os.ext (hE1 _)) (faV_len _) (by omega)
        (.inr (.inl ⟨_, 1, rfl, rfl, Seg_new (by simp)⟩)) (by simp [one]) (by omega) (by omega) fun sv' g5 o5 m5 f5 _ => ?_
      simp (disch := omega)
      have hgz := eg.size
      refine hX (i + 1, sv') _ _ _ rfl (by simp) ⟨hiq, m5.ext_from (eg.trans (hE1 _)) (fun c hc e => by have := hb c e; omega), ?_, fun c hc => (f5 c hc).elim (hb c) (fun e => by simp at e; omega)⟩ (by dsimp only; omega)
      dsimp only
      rw [ht]
      simpa [faV] using o5
    · obtain rfl : i = x.qs.length := by omega
      simp (disch := omega)
      have : x.f.ps.take x.qs.length = x.f.ps := List.take_of_length_le (by simp [Fh.f])
      rw [this] at os
      exact hkk _ _ ⟨e1.trans eg, os, fun b hb' => by have := hb b hb'; omega⟩
  · obtain ⟨e1, ov, hb⟩ := hv
    refine n90_calls ?_
    unfold n90
    obtain ⟨va, vn, vc, rfl, -, -, -⟩ := ov.form
    simp (disch := omega)
    have hz := e1.size
    have hfew : (ppL (s.psOf l)).length ≤ 1000000000000 := by
      unfold ppL St.psOf
      rw [List.length_map]
      split
      · split
        · rename_i x hx
          have := a.pfew x (List.mem_of_find?_eq_some hx)
          have := a.stp
          have : x.f.ps.length = x.qs.length := by simp [Fh.f]
          omega
        · simp
      · simp
    exact H _ g.size (.slice va vn vc) (e1.trans (by repeat' (first | (with_reducible exact Ext.refl _) | (with_reducible assumption) | (with_reducible refine push_ext ?_) | (with_reducible refine hset_ext ?_ ?_) | (with_reducible refine Ext.trans ?_ (by assumption)) | omega | (simp; done) | (simp; omega) | (refine Ext.size ?_) | (refine Nat.le_succ_of_le (Ext.size ?_))))) ⟨get_pushed rfl, ov.ext (by repeat' (first | (with_reducible exact Ext.refl _) | (with_reducible assumption) | (with_reducible refine push_ext ?_) | (with_reducible refine hset_ext ?_ ?_) | (with_reducible refine Ext.trans ?_ (by assumption)) | omega | (simp; done) | (simp; omega) | (refine Ext.size ?_) | (refine Nat.le_succ_of_le (Ext.size ?_)))), hfew⟩ hz hb
end Go.Proofs.YtcbbdnaelimpfaaGreat
set_option linter.unusedSimpArgs false
set_option linter.unusedVariables false
namespace Go.Proofs.YtcbbdnaelimpfaaGreat
open Go.Vc
variable {K : Value → Heap → Prop} {h : Heap}

def St.pend (s : St) : Nat := (s.F.map fun x => x.f.ps.length).sum
theorem psOf_mem {p : Nat} {s : St} (a : StAt h p s) {x : Fh} (hx : x ∈ s.F) : s.get x.name = some x ∧ s.psOf x.name = x.f.ps := by
  have hg : s.get x.name = some x := by
    unfold St.get
    have nd := a.nodup
    generalize s.F = F at hx nd
    induction F with
    | nil => cases hx
    | cons y F ih =>
      rw [List.find?_cons]
      rw [List.map_cons, List.nodup_cons] at nd
      rcases List.mem_cons.1 hx with rfl | hx
      · simp
      · have : y.name ≠ x.name := fun e => nd.1 (e ▸ List.mem_map_of_mem hx)
        simp only [this, decide_false]
        exact ih hx nd.2
  refine ⟨hg, ?_⟩
  unfold St.psOf
  rw [if_pos (a.names x hx), hg]
theorem pend_perm {p : Nat} {s : St} (a : StAt h p s) {L : List (List UInt8)} (hp : L.Perm (s.F.map (·.name))) : (L.map fun n => (s.psOf n).length).sum = s.pend := by
  rw [(hp.map fun n => (s.psOf n).length).sum_nat, List.map_map]
  unfold St.pend
  congr 1
  exact List.map_congr_left fun x hx => by show (s.psOf x.name).length = _; rw [(psOf_mem a hx).2]
theorem sum_le {l : List Nat} {n : Nat} (h : ∀ x ∈ l, x ≤ n) : l.sum ≤ l.length * n := by
  induction l with
  | nil => simp
  | cons x l ih =>
    have h1 := h x List.mem_cons_self
    have h2 := ih fun y hy => h y (List.mem_cons_of_mem _ hy)
    rw [List.sum_cons, List.length_cons, Nat.add_mul]; omega
theorem psOf_le {p : Nat} {s : St} (a : StAt h p s) (l : List UInt8) : (s.psOf l).length ≤ 1000000000000 := by
  unfold St.psOf
  split
  · split
    · rename_i x hx
      have := a.pfew x (List.mem_of_find?_eq_some hx)
      have := a.stp
      have : x.f.ps.length = x.qs.length := by simp [Fh.f]
      omega
    · simp
  · simp

set_option maxHeartbeats 4000000 in
theorem Pending_c {p : Nat} {s : St} (a : StAt h p s) (H : ∀ h', Ext h h' → K (.int .i64 s.pend) h') : CallsH Tryz.prog 17 #[ptrV p] h K ⟨⟩ := by
  refine n17_calls ?_
  unfold n17
  simp (disch := omega)
  refine (⟨_, rfl⟩ : ∃ g, g = hset (h.push (.cells #[.int .i64 0] 3)) ⟨h.size, 0, none⟩ (.int .i64 0)).elim fun h0 eh0 => ?_
  have e0 : Ext h h0 := by rw [eh0]; exact (by repeat' (first | (with_reducible exact Ext.refl _) | (with_reducible assumption) | (with_reducible refine push_ext ?_) | (with_reducible refine hset_ext ?_ ?_) | (with_reducible refine Ext.trans ?_ (by assumption)) | omega | (simp; done) | (simp; omega) | (refine Ext.size ?_) | (refine Nat.le_succ_of_le (Ext.size ?_))))
  have z0 : h0.size = h.size + 1 := by rw [eh0]; simp
  have q0 : h0[h.size]? = some (.cells #[.int .i64 (0 : Nat)] 3) := by rw [eh0]; exact obj_set (get_pushed rfl)
  rw [← eh0]
  clear eh0
  refine JoinN_in1 (fun D g => Ext h g ∧ g[h.size]? = some (.cells #[.int .i64 (s.pend : Nat)] 3) ∧ ∃ ds, D = .tuple (marksV ds).toArray ∧ ds.Nodup ∧ ∀ d ∈ ds, h.size < d ∧ g[d]? = some (.deferred (some []))) (fun kk hkk => ?_) (fun D g hD => ?_)
  · refine Names_c (a.ext e0) fun h1 v L e1 p1 q1 o1 f1 => ?_
    have hLl : L.length = s.F.length := by rw [p1.length_eq, List.length_map]
    have hfew := a.few
    obtain ⟨va, vn, vc, rfl, hvl, hvc, hvne⟩ := o1.form (by omega)
    obtain rfl : vn = L.length := by simpa using hvl.symm
    have hpn := pend_perm a p1
    simp (disch := omega)
    refine JoinN.mk ?_
    have hql : h1[h.size]? = some (.cells #[.int .i64 (0 : Nat)] 3) := (e1.block _ (get_some_lt q0)).trans q0
    refine loopX2 (α := Nat × List Nat) (fun a => .tuple (marksV a.2).toArray) (fun a => .int .i64 a.1) (fun a g => a.1 ≤ L.length ∧ Ext h g ∧ g[h.size]? = some (.cells #[.int .i64 (((L.take a.1).map fun n => (s.psOf n).length).sum : Nat)] 3) ∧ OwnT stT 1 g (.slice va L.length vc) (L.map str) ∧ a.2.Nodup ∧ ∀ d ∈ a.2, h.size < d ∧ g[d]? = some (.deferred (some []))) (fun a => L.length - a.1) (0, []) ⟨rfl, rfl⟩ ⟨Nat.zero_le _, e0.trans e1, by simpa using hql, o1, .nil, fun d hd => by cases hd⟩ ?_
    rintro ⟨i, ds⟩ g ⟨hi, eg, gq, og, nd, hds⟩ X hX
    dsimp only at hi gq nd hds hX ⊢
    have htl : ∀ j, (((L.take j).map fun n => (s.psOf n).length).sum : Nat) ≤ 256000000000000 := fun j => by
      have := sum_le (l := (L.take j).map fun n => (s.psOf n).length) (n := 1000000000000) (fun x hx => by
        obtain ⟨y, -, rfl⟩ := List.mem_map.1 hx
        exact psOf_le a y)
      rw [List.length_map, List.length_take] at this
      have h2 : min j L.length * 1000000000000 ≤ 256 * 1000000000000 := Nat.mul_le_mul_right _ (by omega)
      omega
    by_cases hil : i < L.length
    · obtain ⟨vb, rfl⟩ := hvne (by intro e; have h9 := congrArg List.length e; simp at h9; rw [h9] at hil; simp at hil)
      have ci := (og.elt (i := i) (by simpa using hil)).1
      have ce : (L.map str)[i]'(by simpa using hil) = str L[i] := by simp
      rw [ce] at ci
      simp (disch := omega)
      refine JoinN.mk ?_
      refine JoinN.mk ?_
      simp (disch := omega) [ci]
      have hnl : L[i].length < 9223372036854775808 := by
        have : L[i] ∈ s.F.map (·.name) := p1.mem_iff.1 (List.getElem_mem hil)
        obtain ⟨x, hx, he⟩ := List.mem_map.1 this
        have := (a.names x hx).2.1
        rw [← he]; omega
      refine Pieces_c (a.ext eg) hnl fun g1 sb w e2 ps hsb hwb => ?_
      refine JoinN.mk ?_
      have hps : (ppL (s.psOf L[i])).length = (s.psOf L[i]).length := List.length_map _
      have hpl := psOf_le a L[i]
      have hqg := get_some_lt gq
      have gq1 := (e2.block _ hqg).trans gq
      have hsum : ((L.take (i + 1)).map fun n => (s.psOf n).length).sum = ((L.take i).map fun n => (s.psOf n).length).sum + (s.psOf L[i]).length := by
        rw [List.take_succ_eq_append_getElem hil, List.map_append, List.sum_append]; simp
      have htl1 := htl (i + 1)
      rw [hsum] at htl1
      obtain ⟨T, hT⟩ : ∃ T, T = ((L.take i).map fun n => (s.psOf n).length).sum := ⟨_, rfl⟩
      rw [← hT] at gq1 htl1 hsum
      have hz2 := e2.size
      have hg0 := get_some_lt gq1
      refine RangeP ps (fun j g => Ext h g ∧ g[h.size]? = some (.cells #[.int .i64 (T + j : Nat)] 3) ∧ OwnT stT 1 g (.slice (some ⟨vb, 0, none⟩) L.length vc) (L.map str) ∧ ∀ d ∈ ds, g[d]? = some (.deferred (some []))) (fun g2 e3 _ => ?_) (fun j g2 g3 hΦ e3 => ?_) (fun j hj g2 oR oB J Y hΦ hgz hgd hgl hoR hoB hY => ?_) (fun g2 oE hΦ hd hlt hlo => ?_)
      · exact ⟨(eg.trans e2).trans e3, by simpa using (e3.block _ hg0).trans gq1, (og.ext e2).ext e3, fun d hd => (e3.block _ (by have := get_some_lt (hds d hd).2; omega)).trans ((e2.block _ (get_some_lt (hds d hd).2)).trans (hds d hd).2)⟩
      · obtain ⟨x1, x2, x3, x4⟩ := hΦ
        exact ⟨x1.trans e3, (e3.block _ (get_some_lt x2)).trans x2, x3.ext e3, fun d hd => (e3.block _ (get_some_lt (x4 d hd))).trans (x4 d hd)⟩
      · obtain ⟨x1, x2, x3, x4⟩ := hΦ
        refine ⟨hgl, ?_⟩
        refine (⟨_, rfl⟩ : ∃ f, f = g2.setIfInBounds (g1.size + 1) oB).elim fun gB egB => ?_
        have mB : Mod (· = g1.size + 1) g2 gB := by rw [egB]; exact Mod.put _ _ _
        have gLB : gB[g1.size + 1]? = some oB := by rw [egB]; exact get_put (get_some_lt hgl)
        rw [← egB]
        clear egB
        have x2B := (mB.block _ (get_some_lt x2) (by omega)).trans x2
        have c0 := cellOf (i := 0) x2B rfl
        have f0 := frzOf (i := 0) x2B
        rw [hps] at hj
        have htj : T + j ≤ 256000000000000 := by omega
        simp (disch := omega) [c0, f0]
        have m4 : Mod (fun b => b = h.size ∨ b = g1.size + 1) g2 ((hset gB ⟨h.size, 0, none⟩ (.int .i64 ((T : Int) + (j : Int) + 1))).setIfInBounds (g1.size + 1) oR) := Mod.putIn (Mod.setIn (mB.mono (fun b _ e => .inr e)) (.inl (.inl rfl))) (.inl (.inr rfl))
        refine ⟨(get_hset' (by omega)).trans gLB, ?_⟩
        refine hY _ _ ⟨m4.ext_from x1 (fun b hb e => by omega), ?_, x3.mod m4 (fun b hb e => ?_), fun d hd => ?_⟩ (get_put (by rw [hset_size]; exact get_some_lt gLB)) m4 (fun e => by have e' : g1.size = h.size ∨ g1.size = g1.size + 1 := e; omega) (fun e => by have e' : sb = h.size ∨ sb = g1.size + 1 := e; have := get_some_lt ps.cell; omega) (fun b hb e => by have e' : b = h.size ∨ b = g1.size + 1 := e; have := hwb b hb; have := ps.row.lt hb; omega)
        · refine (get_putne (by omega)).trans ((obj_set x2B).trans ?_)
          congr 3
        · rcases e with e | e
          · exact x3.ne hb x2 (by decide) e
          · obtain ⟨arr, ha⟩ := x3.tag hb
            rw [e, hgl] at ha; cases ha; cases hoR
        · have h1 := (hds d hd).1
          exact (m4.block d (get_some_lt (x4 d hd)) (by have := get_some_lt (hds d hd).2; omega)).trans (x4 d hd)
      · obtain ⟨x1, x2, x3, x4⟩ := hΦ
        rw [consD_marks]
        simp (disch := omega)
        have mE := Mod.put g2 (g1.size + 1) oE
        have hdl : ∀ d ∈ ds, d < g1.size := fun d hd => by have := get_some_lt (hds d hd).2; omega
        refine hX (i + 1, g1.size :: ds) _ _ _ rfl (by simp) ⟨hil, mE.ext_from x1 (fun b hb e => by omega), ?_, x3.mod mE (fun b hb e => ?_), List.nodup_cons.2 ⟨fun h => by have := hdl _ h; omega, nd⟩, fun d hd' => ?_⟩ (by dsimp only; omega)
        · refine (get_putne (by omega)).trans (x2.trans ?_)
          dsimp only
          rw [hsum, hps]
        · obtain ⟨arr, ha⟩ := x3.tag hb
          obtain ⟨o, ho, hlo⟩ := hlo
          rw [e, ho] at ha; cases ha; cases hlo
        · rcases List.mem_cons.1 hd' with rfl | hd'
          · exact ⟨by omega, (get_putne (by omega)).trans hd⟩
          · exact ⟨(hds d hd').1, (get_putne (by have := hdl d hd'; omega)).trans (x4 d hd')⟩
    · obtain rfl : i = L.length := by omega
      simp (disch := omega)
      rw [List.take_length, hpn] at gq
      exact hkk _ _ ⟨eg, gq, ds, rfl, nd, hds⟩
  · obtain ⟨e1, gq, ds, rfl, nd, hds⟩ := hD
    have c0 := cellOf (i := 0) gq rfl
    simp (disch := omega) [c0]
    refine RetD_all (fun d hd => (hds d hd).2) nd fun h' m => ?_
    exact H h' (m.ext_from e1 (fun b hb e => by have := (hds b e).1; omega))
end Go.Proofs.YtcbbdnaelimpfaaGreat
set_option linter.unusedSimpArgs false
set_option linter.unusedVariables false
namespace Go.Proofs.YtcbbdnaelimpfaaGreat
open Go.Vc
variable {K : Value → Heap → Prop} {h : Heap}

def inV (n : Int) : Value := .int .i64 n
structure Its (h : Heap) (v : Value) (l : List Int) : Prop where
  src : Src 1 h v l.length (l.map inV)
  form : ∃ a c, v = .slice a l.length c ∧ l.length ≤ c
  few : l.length < 9223372036854775808
  ok : ∀ n ∈ l, -9223372036854775808 ≤ n ∧ n < 9223372036854775808
theorem Its.ext {h' : Heap} {v : Value} {l : List Int} (a : Its h v l) (e : Ext h h') : Its h' v l := ⟨a.src.ext e, a.form, a.few, a.ok⟩
theorem Its.seg {v : Value} {l : List Int} (a : Its h v l) (hl : l ≠ []) : ∃ ad c, v = .slice (some ad) l.length c ∧ l.length ≤ c ∧ Seg h ad (l.map inV) := by
  obtain ⟨a0, c, rfl, hc⟩ := a.form
  rcases a.src with ⟨e, e2, e3⟩ | ⟨ad, c', e, e2, hs⟩ | ⟨l, e, -⟩
  · exact absurd (List.length_eq_zero_iff.1 e3) hl
  · cases e; exact ⟨ad, c, rfl, hc, hs⟩
  · cases e
theorem Its.cell {v : Value} {l : List Int} (a : Its h v l) {i : Nat} (hi : i < l.length) : ∃ ad c, v = .slice (some ad) l.length c ∧ l.length ≤ c ∧ hcell h (elt ad i) = some (.int .i64 l[i]) := by
  obtain ⟨ad, c, h1, h2, h3⟩ := a.seg (by intro e; rw [e] at hi; simp at hi)
  refine ⟨ad, c, h1, h2, (h3 i (by simpa using hi)).trans ?_⟩
  simp [inV]
theorem Its.mod {S : Nat → Prop} {h' : Heap} {v : Value} {l : List Int} (a : Its h v l) (m : Mod S h h') (hS : l ≠ [] → ∀ b, blkV v = some b → ¬ S b) : Its h' v l := by
  refine ⟨?_, a.form, a.few, a.ok⟩
  rcases a.src with x | ⟨ad, c', e, e2, hs⟩ | x
  · exact .inl x
  · refine .inr (.inl ⟨ad, c', e, e2, ?_⟩)
    by_cases hl : l = []
    · subst hl
      intro i hi
      simp at hi
    · exact hs.mod m (hS hl _ (by rw [e]; rfl))
  · exact .inr (.inr x)
theorem Its.tail {k : Int} {l : List Int} {ad : Addr} {c : Nat} (a : Its h (.slice (some ad) (l.length + 1) c) (k :: l)) : Its h (.slice (some (sub ad 1 c)) l.length (c - 1)) l := by
  obtain ⟨a0, c0, he, hc⟩ := a.form
  cases he
  refine ⟨.inr (.inl ⟨_, _, rfl, by simp, ?_⟩), ⟨_, _, rfl, by simp at hc; omega⟩, by have := a.few; simp at this; omega, fun n hn => a.ok n (List.mem_cons_of_mem _ hn)⟩
  obtain ⟨ad', c', he, -, hs⟩ := a.seg (by simp)
  cases he
  have := hs.part 1 (l.length + 1) c (by omega) (by simp) (by simpa using hc)
  have e : ((k :: l).map inV).take (l.length + 1) = (k :: l).map inV := List.take_of_length_le (by simp)
  rw [e] at this
  simpa using this

def pickB : List Int → Bool
  | [] => false
  | k :: _ => decide (k % 2 = 1)
def isT : Nat := 49
theorem picked_snoc : ∀ {ks : List Int} {ps : List Pc} {j : Nat} (hj : j < ps.length), picked ks (ps.take (j + 1)) = picked ks (ps.take j) ++ (if pickB (ks.drop j) then [ps[j]] else [])
  | [], ps, j, hj => by
    rw [picked_nil, picked_nil]; simp [pickB]
  | k :: ks, p :: ps, 0, _ => by
    have h1 : picked (k :: ks) ([] : List Pc) = [] := rfl
    have h2 : picked ks ([] : List Pc) = [] := by cases ks <;> rfl
    have h3 : picked (k :: ks) [p] = if k % 2 = 1 then p :: picked ks [] else picked ks [] := rfl
    simp only [List.take_succ_cons, List.take_zero, List.drop_zero]
    rw [h1, h3, h2]
    by_cases h : k % 2 = 1 <;> simp [pickB, h]
  | k :: ks, p :: ps, j + 1, hj => by
    have := picked_snoc (ks := ks) (ps := ps) (j := j) (by simpa using hj)
    simp only [List.take_succ_cons, List.drop_succ_cons, List.getElem_cons_succ]
    rw [picked, picked, this]
    split
    · rfl
    · rfl
end Go.Proofs.YtcbbdnaelimpfaaGreat
set_option linter.unusedSimpArgs false
set_option linter.unusedVariables false
namespace Go.Proofs.YtcbbdnaelimpfaaGreat
open Go.Vc
variable {K : Value → Heap → Prop} {h : Heap}

def St.flOf (s : St) (n : List UInt8) : Fl := match s.get n with | some x => x.f | none => ⟨n, [], []⟩
def npc (fs : List Fl) : Nat := (fs.map fun f => f.ps.length).sum
end Go.Proofs.YtcbbdnaelimpfaaGreat
set_option linter.unusedSimpArgs false
set_option linter.unusedVariables false
namespace Go.Proofs.YtcbbdnaelimpfaaGreat
open Go.Vc
variable {K : Value → Heap → Prop} {h : Heap}

def i64 (n : Int) : Prop := -9223372036854775808 ≤ n ∧ n < 9223372036854775808
structure Stp where
  kind : Int
  n : Int
  at_ : Int
  name : List UInt8
  bv : Value
  fv : Value
  pv : Value
  b : List UInt8
  fs : List (Int × Int)
  pl : List Int
def Stp.cells (x : Stp) : List Value := [.int .i64 x.kind, .int .i64 x.n, .int .i64 x.at_, str x.name, x.bv, x.fv, x.pv]
structure StpOk (h : Heap) (x : Stp) : Prop where
  kind : i64 x.kind
  n : i64 x.n
  at_ : i64 x.at_
  name : x.name.length < 9223372036854775808
  b : Bytes h x.bv x.b
  bl : x.b.length < 9223372036854775808
  fs : Fas h x.fv x.fs
  pl : Its h x.pv x.pl
theorem StpOk.ext {h' : Heap} {x : Stp} (a : StpOk h x) (e : Ext h h') : StpOk h' x := ⟨a.kind, a.n, a.at_, a.name, a.b.ext e, a.bl, a.fs.ext e, a.pl.ext e⟩
structure Sps (h : Heap) (v : Value) (xs : List Stp) : Prop where
  slc : Slc 7 h v (fun us x => us = x.cells) xs
  ok : ∀ x ∈ xs, StpOk h x
  len : xs.length < 9223372036854775808
theorem slc_ext {α : Type} {s : Nat} {h' : Heap} {v : Value} {R : List Value → α → Prop} {xs : List α} (a : Slc s h v R xs) (e : Ext h h') : Slc s h' v R xs := by
  rcases a with a | ⟨a, c, h1, h2, h3⟩
  · exact .inl a
  · refine .inr ⟨a, c, h1, h2, fun i hi => ?_⟩
    obtain ⟨us, h4, h5, h6⟩ := h3 i hi
    exact ⟨us, h4, h5.ext e, h6⟩
theorem Sps.ext {h' : Heap} {v : Value} {xs : List Stp} (a : Sps h v xs) (e : Ext h h') : Sps h' v xs := ⟨slc_ext a.slc e, fun x hx => (a.ok x hx).ext e, a.len⟩
theorem Sps.form {v : Value} {xs : List Stp} (a : Sps h v xs) : ∃ o c, v = .slice o xs.length c := Slc.form a.slc
theorem Sps.cell {v : Value} {xs : List Stp} (s : Sps h v xs) {i : Nat} (hi : i < xs.length) : ∃ a c, v = .slice (some a) xs.length c ∧ hcell h (elt a (i * 7)) = some (.int .i64 xs[i].kind) ∧ hcell h (elt a (i * 7 + 1)) = some (.int .i64 xs[i].n) ∧
    hcell h (elt a (i * 7 + 2)) = some (.int .i64 xs[i].at_) ∧ hcell h (elt a (i * 7 + 3)) = some (str xs[i].name) ∧ hcell h (elt a (i * 7 + 4)) = some xs[i].bv ∧ hcell h (elt a (i * 7 + 5)) = some xs[i].fv ∧ hcell h (elt a (i * 7 + 6)) = some xs[i].pv := by
  rcases s.slc with ⟨h1, rfl⟩ | ⟨a, c, h1, h2, h3⟩
  · cases hi
  · obtain ⟨us, -, h5, rfl⟩ := h3 i hi
    have := fun j hj => h5 j hj
    unfold Stp.cells at this
    have e0 := this 0 (by simp)
    have e1 := this 1 (by simp)
    have e2 := this 2 (by simp)
    have e3 := this 3 (by simp)
    have e4 := this 4 (by simp)
    have e5 := this 5 (by simp)
    have e6 := this 6 (by simp)
    rw [elt_elt] at e0 e1 e2 e3 e4 e5 e6
    exact ⟨a, c, h1, e0, e1, e2, e3, e4, e5, e6⟩
theorem slc_seg {α : Type} {s : Nat} {a : Addr} {f : α → List Value} : ∀ (xs : List α) (k : Nat), (∀ x, (f x).length = s) → (∀ (i : Nat) (hi : i < xs.length), Seg h (elt a ((k + i) * s)) (f xs[i])) → Seg h (elt a (k * s)) (xs.flatMap f)
  | [], k, _, _ => fun i hi => by simp at hi
  | x :: xs, k, hf, H => by
    have ih := slc_seg xs (k + 1) hf (fun i hi => by
      have := H (i + 1) (by simpa using hi)
      rw [show k + 1 + i = k + (i + 1) by omega]
      simpa using this)
    have h0 := H 0 (by simp)
    intro i hi
    rw [List.flatMap_cons] at hi
    by_cases h1 : i < (f x).length
    · have := h0 i (by simpa using h1)
      simp only [Nat.add_zero, List.getElem_cons_zero] at this
      rw [this]
      simp only [List.flatMap_cons]
      rw [List.getElem_append_left h1]
    · have hl := hf x
      have := ih (i - s) (by rw [List.length_append] at hi; omega)
      rw [elt_elt, Nat.add_mul, Nat.one_mul, show k * s + s + (i - s) = k * s + i by omega] at this
      rw [elt_elt, this]
      simp only [List.flatMap_cons]
      rw [List.getElem_append_right (by omega)]
      simp only [hl]
theorem Fas.of {v : Value} {fs : List (Int × Int)} (s : Slc 2 h v (fun us f => us = faV f) fs) (hl : fs.length < 9223372036854775808) (ho : ∀ f ∈ fs, i64 f.1 ∧ i64 f.2) : Fas h v fs := by
  refine ⟨?_, ?_, hl, fun f hf => ⟨(ho f hf).1.1, (ho f hf).1.2, (ho f hf).2.1, (ho f hf).2.2⟩⟩
  · rcases s with ⟨rfl, rfl⟩ | ⟨a, c, rfl, h2, h3⟩
    · exact .inl ⟨rfl, rfl, rfl⟩
    · refine .inr (.inl ⟨a, c, rfl, faV_len _, ?_⟩)
      have := slc_seg (h := h) (a := a) (s := 2) (f := faV) fs 0 (fun x => rfl) (fun i hi => by
        obtain ⟨us, -, h5, rfl⟩ := h3 i hi
        rw [Nat.zero_add]; exact h5)
      simpa using this
  · rcases s with ⟨rfl, rfl⟩ | ⟨a, c, rfl, h2, h3⟩
    · exact ⟨none, 0, rfl, Nat.le_refl _⟩
    · exact ⟨_, c, rfl, h2⟩
theorem flat1 : ∀ l : List Int, l.flatMap (fun n => [inV n]) = l.map inV
  | [] => rfl
  | x :: l => by rw [List.flatMap_cons, flat1 l]; rfl
theorem Its.of {v : Value} {l : List Int} (s : Slc 1 h v (fun us n => us = [inV n]) l) (hl : l.length < 9223372036854775808) (ho : ∀ n ∈ l, i64 n) : Its h v l := by
  refine ⟨?_, ?_, hl, fun f hf => ho f hf⟩
  · rcases s with ⟨rfl, rfl⟩ | ⟨a, c, rfl, h2, h3⟩
    · exact .inl ⟨rfl, rfl, rfl⟩
    · refine .inr (.inl ⟨a, c, rfl, by simp, ?_⟩)
      have := slc_seg (h := h) (a := a) (s := 1) (f := fun n => [inV n]) l 0 (fun x => rfl) (fun i hi => by
        obtain ⟨us, -, h5, rfl⟩ := h3 i hi
        rw [Nat.zero_add]; exact h5)
      have e : l.flatMap (fun n => [inV n]) = l.map inV := flat1 l
      rw [e] at this
      simpa using this
  · rcases s with ⟨rfl, rfl⟩ | ⟨a, c, rfl, h2, h3⟩
    · exact ⟨none, 0, rfl, Nat.le_refl _⟩
    · exact ⟨_, c, rfl, h2⟩

section
open Go Go.ChangeShapes Go.WideShapes Go.ChangeAt Go.RowKit Go.Deep
variable {H : Type} {enc : TypeId × Value → H} {w : World} {base : Nat} {sp : Nat → Bool} {held : Bool}
theorem i64_of {n : Int} (h : IntKind.i64.min ≤ n ∧ n ≤ IntKind.i64.max) : i64 n := by
  have h1 : IntKind.i64.min = -9223372036854775808 := by decide
  have h2 : IntKind.i64.max = 9223372036854775807 := by decide
  unfold i64; omega
theorem max63 {n : Nat} (h : n ≤ maxLen) : n < 9223372036854775808 := Nat.lt_of_le_of_lt h (by decide)
theorem slc_ok {α : Type} {s : Nat} {h : Heap} {v : Value} {R : List Value → α → Prop} {q : α → Prop} {f : α → List Value} {xs : List α} (a : Slc s h v R xs) (hR : ∀ us x, R us x → us = f x ∧ q x) : Slc s h v (fun us x => us = f x) xs ∧ ∀ x ∈ xs, q x := by
  rcases a with ⟨rfl, rfl⟩ | ⟨a, c, rfl, h2, h3⟩
  · exact ⟨.inl ⟨rfl, rfl⟩, fun x hx => by cases hx⟩
  · refine ⟨.inr ⟨a, c, rfl, h2, fun i hi => ?_⟩, fun x hx => ?_⟩
    · obtain ⟨us, h4, h5, h6⟩ := h3 i hi
      exact ⟨us, h4, h5, (hR _ _ h6).1⟩
    · obtain ⟨i, hi, rfl⟩ := List.getElem_of_mem hx
      obtain ⟨us, h4, h5, h6⟩ := h3 i hi
      exact (hR _ _ h6).2
end
end Go.Proofs.YtcbbdnaelimpfaaGreat
