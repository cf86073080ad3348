/- Store: the sorted names. Store: a going over pieces. Store: how many pieces there are. Store: picks. Store: crashed. Store: the laws' calls. -/
import Derived.Test.YtcbbdnaelimpfaaGreatStoB
import Derived.Test.YtcbbdnaelimpfaaGreatSrtD
import Derived.Test.YtcbbdnaelimpfaaGreatVcRange
import Derived.Test.YtcbbdnaelimpfaaGreatOpen
set_option linter.unusedSimpArgs false
set_option linter.unusedVariables false
namespace Go.Proofs.YtcbbdnaelimpfaaGreat
open Go.Vc
variable {K : Value → Heap → Prop} {h : Heap}

def stT : Nat := 9
def lsT : Nat := 105
theorem range_filterS {α : Type} : ∀ (H : List α), (List.range H.length).filterMap (fun i => H[i]?) = H
  | [] => rfl
  | x :: l => by
    rw [List.length_cons, List.range_succ_eq_map, List.filterMap_cons]
    simp only [List.getElem?_cons_zero, List.filterMap_map]
    congr 1
    exact range_filterS l
set_option maxHeartbeats 2000000 in
theorem AppendKeys_c {b m : Nat} {l : List (List UInt8 × Value)} (hb : h[b]? = some (.cells #[.map (some m)] 153)) (hm : MapK str h m l) (hl : l.length < 100000)
    (H : ∀ h' v (L : List (List UInt8)), Ext h h' → L.Perm (l.map (·.1)) → OwnT stT 1 h' v (L.map str) → (∀ b, blkV v = some b → h.size ≤ b) → K v h') :
    CallsH Tryz.prog 141 #[.slice none 0 0, .func (.func 120) #[] #[ptrV b]] h K ⟨⟩ := by
  refine n141_calls ?_
  unfold n141
  simp (disch := omega)
  refine JoinN_in1 (fun D g => D = consD (h.size + 1) (.tuple #[]) ∧ g[h.size + 1]? = some (.deferred (some [])) ∧ Ext h g ∧ ∃ v, ∃ L : List (List UInt8), g[h.size]? = some (.cells #[v] lsT) ∧ L.Perm (l.map (·.1)) ∧ OwnT stT 1 g v (L.map str) ∧ (∀ b, blkV v = some b → h.size + 2 ≤ b)) (fun kk hkk => ?_) (fun D g hD => ?_)
  · refine JoinN.mk ?_
    have hbl := get_some_lt hb
    have hml := hm.lt
    refine (⟨_, rfl⟩ : ∃ g, g = h.push (.cells #[.slice none 0 0] lsT)).elim fun h0 eh0 => ?_
    have e0 : Ext h h0 := by rw [eh0]; exact (by repeat' (first | (with_reducible exact Ext.refl _) | (with_reducible assumption) | (with_reducible refine push_ext ?_) | (with_reducible refine hset_ext ?_ ?_) | (with_reducible refine Ext.trans ?_ (by assumption)) | omega | (simp; done) | (simp; omega) | (refine Ext.size ?_) | (refine Nat.le_succ_of_le (Ext.size ?_))))
    have z0 : h0.size = h.size + 1 := by rw [eh0]; simp
    have q0 : h0[h.size]? = some (.cells #[.slice none 0 0] lsT) := by rw [eh0]; exact get_pushed rfl
    rw [show h.push (.cells #[.slice none 0 0] 105) = h0 from eh0.symm]
    clear eh0
    refine RangeC_none rfl fun oR oB oE oX oF Kp hoR hoB hrd hN hR hX => ?_
    refine (⟨_, rfl⟩ : ∃ g, g = (h0.push (.deferred (some []))).push oR).elim fun h1 eh1 => ?_
    have e1 : Ext h0 h1 := by rw [eh1]; exact (by repeat' (first | (with_reducible exact Ext.refl _) | (with_reducible assumption) | (with_reducible refine push_ext ?_) | (with_reducible refine hset_ext ?_ ?_) | (with_reducible refine Ext.trans ?_ (by assumption)) | omega | (simp; done) | (simp; omega) | (refine Ext.size ?_) | (refine Nat.le_succ_of_le (Ext.size ?_))))
    have z1 : h1.size = h.size + 3 := by rw [eh1]; simp [z0]
    have rD : h1[h.size + 1]? = some (.deferred (some [])) := by rw [eh1, get_push (by simp; omega), get_pushed (by omega)]
    have rL : h1[h.size + 2]? = some oR := by rw [eh1, get_pushed (by simp; omega)]
    rw [← eh1]
    clear eh1
    rw [z0] at hrd hN ⊢
    refine InvokeH_k1 (by kernel_rfl) ?_
    refine n120_calls ?_
    unfold n120 ptrV
    have c0 := cellOf (i := 0) (((e0.trans e1).block b hbl).trans hb) rfl
    simp (disch := omega) [c0]
    refine Hp_rangeM (by kernel_rfl) ((hm.ext e0).ext e1) fun h2 e2 hit hs2 => ?_
    have q2 := (e2.block h.size (by omega)).trans ((e1.block h.size (by omega)).trans q0)
    refine loopMap0 (fun I g => Ext h g ∧ g[h.size + 1]? = some (.deferred (some [])) ∧ g[h.size + 2]? = some oR ∧ ∃ v, g[h.size]? = some (.cells #[v] lsT) ∧ OwnT stT 1 g v ((I.filterMap (fun i => (l.map (·.1))[i]?)).map str) ∧ (∀ b, blkV v = some b → h.size + 2 ≤ b)) hit ⟨(e0.trans e1).trans e2, (e2.block _ (by omega)).trans rD, (e2.block _ (by omega)).trans rL, _, q2, .nil, fun b hb => by cases hb⟩ ?_
    rintro I g hI hn hlt ⟨eg, gD, gL, v, gv, ov, fv⟩ X hX
    have hIl := nodup_len hn hlt
    refine Hp_next hI (fun i hi hiI g' m' hI' => ?_) (fun hall => ?_)
    · simp (disch := omega)
      rw [Hp_entry hI' hi]
      simp (disch := omega)
      have mI : ∀ b, b = h2.size - 1 ∨ True := fun _ => .inr trivial
      have hq : h.size < g.size := get_some_lt gv
      obtain ⟨es, cl, m1, -, -, -, m6, -, -⟩ := hI
      have hitq : h.size ≠ h1.size := by omega
      have gv' := (m'.block h.size hq hitq).trans gv
      have gD' := (m'.block (h.size + 1) (get_some_lt gD) (by omega)).trans gD
      have gL' := (m'.block (h.size + 2) (get_some_lt gL) (by omega)).trans gL
      have hvit : ∀ b, blkV v = some b → b ≠ h1.size := fun b hb e => by
        obtain ⟨arr, ha⟩ := ov.tag hb
        rw [e, m6] at ha; cases ha
      have ov' := ov.mod m' (fun b hb e => hvit b hb e)
      have eg' : Ext h g' := m'.ext_from eg (fun b hb e => by omega)
      refine hrd [str (l[i]).1] g' _ rfl gL' ⟨gL', ?_⟩
      refine (⟨_, rfl⟩ : ∃ f, f = g'.setIfInBounds (h.size + 1 + 1) oB).elim fun gB egB => ?_
      have mB : Mod (· = h.size + 2) g' gB := by rw [egB]; exact Mod.put _ _ _
      have gLB : gB[h.size + 2]? = some oB := by rw [egB]; exact get_put (get_some_lt gL')
      rw [← egB]
      clear egB
      have gvB := (mB.block h.size (get_some_lt gv') (by omega)).trans gv'
      have gDB := (mB.block (h.size + 1) (get_some_lt gD') (by omega)).trans gD'
      have hvl : ∀ b, blkV v = some b → b ≠ h.size + 2 := fun b hb e => by
        obtain ⟨arr, ha⟩ := ov'.tag hb
        rw [e, gL'] at ha
        cases ha; cases hoR
      have ovB := ov'.mod mB (fun b hb e => hvl b hb e)
      have hIB := hI'.mod mB (fun e => by omega) (fun e => by omega)
      have eB : Ext h gB := mB.ext_from eg' (fun b hb e => by omega)
      have c0 := cellOf (i := 0) gvB rfl
      obtain ⟨va, vn, vc, rfl, hvn, -, -⟩ := ov.form (by omega)
      simp (disch := omega) [c0, getV]
      have hkl : (I.filterMap (fun i => (l.map (·.1))[i]?)).length ≤ I.length := List.length_filterMap_le _ _
      have hf : (I ++ [i]).filterMap (fun i => (l.map (·.1))[i]?) = I.filterMap (fun i => (l.map (·.1))[i]?) ++ [(l[i]).1] := by
        rw [List.filterMap_append]
        congr 1
        rw [List.filterMap_cons, List.getElem?_map, List.getElem?_eq_getElem hi]
        rfl
      refine Hp_appP (e := stT) (by_ := 16) (by kernel_rfl) (by kernel_rfl) ovB rfl (by rw [List.length_map]; omega) (by omega) fun v' h3 o3 m3 f3 => ?_
      have hvq : ∀ b, blkV (.slice va vn vc) = some b → b ≠ h.size := fun b hb => ovB.ne hb gvB (by decide)
      have hvD : ∀ b, blkV (.slice va vn vc) = some b → b ≠ h.size + 1 := fun b hb e => by
        obtain ⟨arr, ha⟩ := ovB.tag hb
        rw [e, gDB] at ha; cases ha
      have gv3 := (m3.block h.size (get_some_lt gvB) (fun e => hvq _ e rfl)).trans gvB
      have gD3 := (m3.block (h.size + 1) (get_some_lt gDB) (fun e => hvD _ e rfl)).trans gDB
      have gL3 := (m3.block (h.size + 2) (get_some_lt gLB) (fun e => by
        obtain ⟨arr, ha⟩ := ovB.tag e
        rw [gLB] at ha; cases ha; cases hoB)).trans gLB
      have k0 := cellOf (i := 0) gv3 rfl
      have f0 := frzOf (i := 0) gv3
      obtain ⟨wa, wn, wc, rfl, -, -, -⟩ := o3.form (by omega)
      have hmm : m ≠ h.size := by omega
      have hvm : ∀ b, blkV (.slice va vn vc) = some b → b ≠ m := fun b hb e => by
        obtain ⟨es', cl', n1, -⟩ := hIB
        obtain ⟨arr, ha⟩ := ovB.tag hb
        rw [e, n1] at ha; cases ha
      have hvi : ∀ b, blkV (.slice va vn vc) = some b → b ≠ h1.size := fun b hb e => by
        obtain ⟨es', cl', -, -, -, -, n6, -⟩ := hIB
        obtain ⟨arr, ha⟩ := ovB.tag hb
        rw [e, n6] at ha; cases ha
      have hI3 := hIB.mod m3 (fun e => hvi _ e rfl) (fun e => hvm _ e rfl)
      have hbz := eB.size
      have e3 : Ext h h3 := m3.ext_from eB (fun b hb e => by have := fv b e; omega)
      simp (disch := omega) [k0, f0]
      have gL4 : (hset h3 ⟨h.size, 0, none⟩ (.slice wa wn wc))[h.size + 2]? = some oB := (get_hset' (by omega)).trans gL3
      refine ⟨gL4, ?_⟩
      have m4 : Mod (fun b => b = h.size ∨ b = h.size + 2) h3 ((hset h3 ⟨h.size, 0, none⟩ (.slice wa wn wc)).setIfInBounds (h.size + 1 + 1) oR) := Mod.putIn (Mod.setIn (Mod.refl _ _) (.inl (.inl rfl))) (.inl (.inr rfl))
      have hwq : ∀ b, blkV (.slice wa wn wc) = some b → b ≠ h.size ∧ b ≠ h.size + 2 := fun b hb => ⟨o3.ne hb gv3 (by decide), fun e => by
        obtain ⟨arr, ha⟩ := o3.tag hb
        rw [e, gL3] at ha; cases ha; cases hoB⟩
      refine hX i _ hiI hi (hI3.mod m4 (fun e => by omega) (fun e => by omega)) ⟨m4.ext_from e3 (fun b hb e => by omega), ?_, get_put (by rw [hset_size]; exact get_some_lt gL3), .slice wa wn wc, ?_, ?_, ?_⟩
      · exact (m4.block (h.size + 1) (get_some_lt gD3) (by omega)).trans gD3
      · exact (get_putne (by omega)).trans (obj_set gv3)
      · rw [hf, List.map_append]
        exact o3.mod m4 (fun b hb e => by have := hwq b hb; omega)
      · exact fun b hb => (f3 b hb).elim (fv b) (fun e => by have := get_some_lt gLB; omega)
    · simp (disch := omega)
      refine hN _ _ gL ?_
      dsimp only
      have gLl := get_some_lt gL
      have hlen : (l.map (·.1)).length = l.length := List.length_map _
      have hperm : (I.filterMap (fun i => (l.map (·.1))[i]?)).Perm (l.map (·.1)) := by
        have hp : I.Perm (List.range (l.map (·.1)).length) := by
          refine (List.perm_ext_iff_of_nodup hn List.nodup_range).2 fun i => ⟨fun hi => ?_, fun hi => hall i (by simp at hi; omega)⟩
          have := hlt i hi
          simp; omega
        have h2 := hp.filterMap (fun i => (l.map (·.1))[i]?)
        rw [range_filterS] at h2
        exact h2
      refine hkk _ _ ⟨rfl, (get_putne (by omega)).trans gD, Mod.ext_from eg (Mod.put _ _ _) (fun b hb e => by omega), v, _, (get_putne (by omega)).trans gv, hperm, ov.mod (Mod.put _ _ _) (fun b hb e => ?_), fv⟩
      obtain ⟨arr, ha⟩ := ov.tag hb
      have e' : b = h.size + 1 + 1 := e
      rw [e', gL] at ha; cases ha; cases hoR
  · obtain ⟨rfl, hd, eg, v, L, hv, hp, ho, hf⟩ := hD
    have c0 := cellOf (i := 0) hv rfl
    simp (disch := omega) [c0]
    refine RetD_one' hd ?_
    have md := Mod.put g (h.size + 1) (.deferred none)
    refine H _ v L (md.ext_from eg (fun b hb e => by omega)) hp (ho.mod md (fun b hb e => ?_)) (fun b hb => by have := hf b hb; omega)
    obtain ⟨arr, ha⟩ := ho.tag hb
    rw [e, hd] at ha; cases ha

theorem Names_c {p : Nat} {s : St} (a : StAt h p s) (H : ∀ h' v (L : List (List UInt8)), Ext h h' → L.Perm (s.F.map (·.name)) → L.Pairwise (fun x y => Op.bytesLess y x = false) → OwnT stT 1 h' v (L.map str) → (∀ b, blkV v = some b → h.size ≤ b) → K v h') :
    CallsH Tryz.prog 48 #[ptrV p] h K ⟨⟩ := by
  refine n48_calls ?_
  unfold n48
  refine none_c a.cells ?_
  have c0 := cellOf (i := 0) a.cells rfl
  have hfew := a.few
  unfold ptrV
  simp (disch := omega) [c0]
  refine n89_calls ?_
  unfold n89
  simp (disch := omega)
  refine n88_calls ?_
  unfold n88
  refine n118_calls ?_
  unfold n118
  have e0 : Ext h (h.push (.cells #[.map (some s.m)] 153)) := (by repeat' (first | (with_reducible exact Ext.refl _) | (with_reducible assumption) | (with_reducible refine push_ext ?_) | (with_reducible refine hset_ext ?_ ?_) | (with_reducible refine Ext.trans ?_ (by assumption)) | omega | (simp; done) | (simp; omega) | (refine Ext.size ?_) | (refine Nat.le_succ_of_le (Ext.size ?_))))
  have hkl : s.keys.length = s.F.length := List.length_map _
  have hkn : s.keys.map (·.1) = s.F.map (·.name) := by unfold St.keys; rw [List.map_map]; rfl
  refine AppendKeys_c (b := h.size) (m := s.m) (l := s.keys) (get_pushed rfl) (a.map.ext e0) (by omega) fun h1 v L e1 p1 o1 f1 => ?_
  have hz0 := e0.size
  have hLl : L.length = s.F.length := by rw [p1.length_eq, List.length_map, hkl]
  refine sortStr_c o1 (by omega) fun h2 L' p2 q2 o2 m2 => ?_
  refine H h2 v L' (m2.ext_from (e0.trans e1) (fun b hb e => by have := f1 b e; omega)) (p2.trans (hkn ▸ p1)) q2 o2 (fun b hb => by have := f1 b hb; omega)
end Go.Proofs.YtcbbdnaelimpfaaGreat
set_option linter.unusedSimpArgs false
set_option linter.unusedVariables false
namespace Go.Proofs.YtcbbdnaelimpfaaGreat
open Go.Vc
variable {K : Value → Heap → Prop} {h : Heap}

def psT : Nat := 170
def peT : Nat := 150
structure Pseq (h : Heap) (sb : Nat) (v : Value) (L : List (Int × Int)) : Prop where
  cell : h[sb]? = some (.cells #[v] psT)
  row : OwnG peT 2 h v (L.flatMap faV)
  few : L.length ≤ 1000000000000
theorem Pseq.mod {S : Nat → Prop} {h' : Heap} {sb : Nat} {v : Value} {L : List (Int × Int)} (a : Pseq h sb v L) (m : Mod S h h') (h1 : ¬ S sb) (h2 : ∀ b, blkG v = some b → ¬ S b) : Pseq h' sb v L :=
  ⟨(m.block _ (get_some_lt a.cell) h1).trans a.cell, a.row.mod m h2, a.few⟩
theorem Pseq.ext {h' : Heap} {sb : Nat} {v : Value} {L : List (Int × Int)} (a : Pseq h sb v L) (e : Ext h h') : Pseq h' sb v L := a.mod (S := fun _ => False) (.of_ext e) (fun x => x) (fun _ _ x => x)
def ppL (ps : List Pc) : List (Int × Int) := ps.map fun p => ((p.at_ : Int), (p.b.length : Int))
def St.psOf (s : St) (l : List UInt8) : List Pc := if okName l then (match s.get l with | some x => x.f.ps | none => []) else []
end Go.Proofs.YtcbbdnaelimpfaaGreat
set_option linter.unusedSimpArgs false
set_option linter.unusedVariables false
namespace Go.Proofs.YtcbbdnaelimpfaaGreat
open Go.Vc
variable {K : Value → Heap → Prop} {h : Heap}

def St.pend (s : St) : Nat := (s.F.map fun x => x.f.ps.length).sum
theorem psOf_mem {p : Nat} {s : St} (a : StAt h p s) {x : Fh} (hx : x ∈ s.F) : s.get x.name = some x ∧ s.psOf x.name = x.f.ps := by
  have hg : s.get x.name = some x := by
    unfold St.get
    have nd := a.nodup
    generalize s.F = F at hx nd
    induction F with
    | nil => cases hx
    | cons y F ih =>
      rw [List.find?_cons]
      rw [List.map_cons, List.nodup_cons] at nd
      rcases List.mem_cons.1 hx with rfl | hx
      · simp
      · have : y.name ≠ x.name := fun e => nd.1 (e ▸ List.mem_map_of_mem hx)
        simp only [this, decide_false]
        exact ih hx nd.2
  refine ⟨hg, ?_⟩
  unfold St.psOf
  rw [if_pos (a.names x hx), hg]
theorem pend_perm {p : Nat} {s : St} (a : StAt h p s) {L : List (List UInt8)} (hp : L.Perm (s.F.map (·.name))) : (L.map fun n => (s.psOf n).length).sum = s.pend := by
  rw [(hp.map fun n => (s.psOf n).length).sum_nat, List.map_map]
  unfold St.pend
  congr 1
  exact List.map_congr_left fun x hx => by show (s.psOf x.name).length = _; rw [(psOf_mem a hx).2]
end Go.Proofs.YtcbbdnaelimpfaaGreat
set_option linter.unusedSimpArgs false
set_option linter.unusedVariables false
namespace Go.Proofs.YtcbbdnaelimpfaaGreat
open Go.Vc
variable {K : Value → Heap → Prop} {h : Heap}

def inV (n : Int) : Value := .int .i64 n
structure Its (h : Heap) (v : Value) (l : List Int) : Prop where
  src : Src 1 h v l.length (l.map inV)
  form : ∃ a c, v = .slice a l.length c ∧ l.length ≤ c
  few : l.length < 9223372036854775808
  ok : ∀ n ∈ l, -9223372036854775808 ≤ n ∧ n < 9223372036854775808
theorem Its.ext {h' : Heap} {v : Value} {l : List Int} (a : Its h v l) (e : Ext h h') : Its h' v l := ⟨a.src.ext e, a.form, a.few, a.ok⟩
theorem Its.seg {v : Value} {l : List Int} (a : Its h v l) (hl : l ≠ []) : ∃ ad c, v = .slice (some ad) l.length c ∧ l.length ≤ c ∧ Seg h ad (l.map inV) := by
  obtain ⟨a0, c, rfl, hc⟩ := a.form
  rcases a.src with ⟨e, e2, e3⟩ | ⟨ad, c', e, e2, hs⟩ | ⟨l, e, -⟩
  · exact absurd (List.length_eq_zero_iff.1 e3) hl
  · cases e; exact ⟨ad, c, rfl, hc, hs⟩
  · cases e
theorem Its.cell {v : Value} {l : List Int} (a : Its h v l) {i : Nat} (hi : i < l.length) : ∃ ad c, v = .slice (some ad) l.length c ∧ l.length ≤ c ∧ hcell h (elt ad i) = some (.int .i64 l[i]) := by
  obtain ⟨ad, c, h1, h2, h3⟩ := a.seg (by intro e; rw [e] at hi; simp at hi)
  refine ⟨ad, c, h1, h2, (h3 i (by simpa using hi)).trans ?_⟩
  simp [inV]
theorem Its.mod {S : Nat → Prop} {h' : Heap} {v : Value} {l : List Int} (a : Its h v l) (m : Mod S h h') (hS : l ≠ [] → ∀ b, blkV v = some b → ¬ S b) : Its h' v l := by
  refine ⟨?_, a.form, a.few, a.ok⟩
  rcases a.src with x | ⟨ad, c', e, e2, hs⟩ | x
  · exact .inl x
  · refine .inr (.inl ⟨ad, c', e, e2, ?_⟩)
    by_cases hl : l = []
    · subst hl
      intro i hi
      simp at hi
    · exact hs.mod m (hS hl _ (by rw [e]; rfl))
  · exact .inr (.inr x)
theorem Its.tail {k : Int} {l : List Int} {ad : Addr} {c : Nat} (a : Its h (.slice (some ad) (l.length + 1) c) (k :: l)) : Its h (.slice (some (sub ad 1 c)) l.length (c - 1)) l := by
  obtain ⟨a0, c0, he, hc⟩ := a.form
  cases he
  refine ⟨.inr (.inl ⟨_, _, rfl, by simp, ?_⟩), ⟨_, _, rfl, by simp at hc; omega⟩, by have := a.few; simp at this; omega, fun n hn => a.ok n (List.mem_cons_of_mem _ hn)⟩
  obtain ⟨ad', c', he, -, hs⟩ := a.seg (by simp)
  cases he
  have := hs.part 1 (l.length + 1) c (by omega) (by simp) (by simpa using hc)
  have e : ((k :: l).map inV).take (l.length + 1) = (k :: l).map inV := List.take_of_length_le (by simp)
  rw [e] at this
  simpa using this

def pickB : List Int → Bool
  | [] => false
  | k :: _ => decide (k % 2 = 1)
def isT : Nat := 49
theorem nextp_c {q : Nat} {v : Value} {ks : List Int} (hq : h[q]? = some (.cells #[v] isT)) (hk : Its h v ks) (h0 : ∀ k ∈ ks, 0 ≤ k) (H : ∀ h' v', h'[q]? = some (.cells #[v'] isT) → (∀ g, Its g v ks → Its g v' ks.tail) → Mod (· = q) h h' → K (.bool (pickB ks)) h') :
    InvokeH Tryz.prog (.func (.func 93) #[] #[ptrV q]) #[] h K ⟨⟩ := by
  refine InvokeH_func (by kernel_rfl) ?_
  show CallsH _ _ #[ptrV q] _ _ _
  refine n93_calls ?_
  unfold n93 ptrV
  have c0 := cellOf (i := 0) hq rfl
  have f0 := frzOf (i := 0) hq
  cases ks with
  | nil =>
    obtain ⟨a0, c, rfl, hc⟩ := hk.form
    simp (disch := omega) [c0]
    exact H h _ hq (fun g hg => hg) (.refl _ _)
  | cons k ks =>
    have hfew := hk.few
    have hk0 := hk.ok k List.mem_cons_self
    have hk1 := h0 k List.mem_cons_self
    obtain ⟨ad, c, rfl, hc, hcl⟩ := hk.cell (i := 0) (by simp)
    simp only [List.length_cons] at hfew hc hk hq c0
    have hcl : hcell h ad = some (.int .i64 k) := by simpa using hcl
    simp (disch := omega) [c0, f0, hcl]
    have := H _ _ (obj_set (i := 0) (v := .slice (some (sub ad 1 c)) ks.length (c - 1)) hq) (fun g hg => Its.tail hg) (Mod.set h ⟨q, 0, none⟩ _)
    refine Split.mk (fun e => ?_) (fun e => ?_)
    · simp only [pickB, decide_eq_true e] at this; exact this
    · simp only [pickB, decide_eq_false e] at this; exact this
theorem IndexI_c {v : Value} {f : Value} {l : List Int} (a : Its h v l) (pr : Int → Bool) (hf : ∀ (n : Int) (g : Heap) (K : Value → Heap → Prop), -9223372036854775808 ≤ n ∧ n < 9223372036854775808 → K (.bool (pr n)) g → InvokeH Tryz.prog f #[.int .i64 n] g K ⟨⟩)
    (H : K (.bool (l.any pr)) h) : CallsH Tryz.prog 91 #[v, f] h K ⟨⟩ := by
  refine n91_calls ?_
  unfold n91
  refine n122_calls ?_
  unfold n122
  obtain ⟨a0, c, rfl, hc⟩ := a.form
  have hfew := a.few
  simp (disch := omega)
  refine loopX1 (α := Nat) (fun i => .int .i64 i) (fun i g => i ≤ l.length ∧ g = h ∧ ∀ j (hj : j < l.length), j < i → pr l[j] = false) (fun i => l.length - i) 0 rfl ⟨Nat.zero_le _, rfl, fun j _ hj => by omega⟩ ?_
  rintro i g ⟨hi, rfl, hr⟩ X hX
  by_cases hin : i < l.length
  · obtain ⟨ad, c', hv, -, q1⟩ := a.cell hin
    cases hv
    simp (disch := omega) [q1]
    refine hf _ _ _ (a.ok _ (List.getElem_mem hin)) ?_
    cases hb : pr l[i] with
    | false =>
      simp (disch := omega)
      refine hX (i + 1) _ _ (by simp) ⟨hin, rfl, fun j hj hji => ?_⟩ (by omega)
      by_cases e : j = i
      · subst e; exact hb
      · exact hr j hj (by omega)
    | true =>
      have : l.any pr = true := List.any_eq_true.2 ⟨l[i], List.getElem_mem hin, hb⟩
      rw [this] at H
      simp (disch := omega)
      exact H
  · obtain rfl : i = l.length := by omega
    have : l.any pr = false := by
      rw [List.any_eq_false]
      intro f hf
      obtain ⟨j, hj, rfl⟩ := List.getElem_of_mem hf
      simp [hr j hj hj]
    rw [this] at H
    simp (disch := omega)
    exact H
theorem neg_c (n : Int) (g : Heap) (K : Value → Heap → Prop) (hn : -9223372036854775808 ≤ n ∧ n < 9223372036854775808) (H : K (.bool (decide (n < 0))) g) : InvokeH Tryz.prog (.func (.func 92) #[] #[]) #[.int .i64 n] g K ⟨⟩ := by
  refine InvokeH_f1 (by kernel_rfl) ?_
  refine n92_calls ?_
  unfold n92
  by_cases e : n < 0
  · rw [decide_eq_true e] at H
    simp (disch := omega) [e]
    exact H
  · rw [decide_eq_false e] at H
    simp (disch := omega) [e]
    exact H

theorem StAt.addG {p n : Nat} {s : St} {h2 : Heap} {x : Fh} (a : StAt h p s) (hn : ∀ b, s.foot p b → b < n) (hn2 : ∀ y ∈ s.F, ∀ q ∈ y.qs, ∀ b, blkV q.2 = some b → b < n) (hx : FlAt h x) (hq : x.qs = []) (ho : ∀ b, x.own b → n ≤ b) (hl : okName x.name) (hg : ∀ y ∈ s.F, y.name ≠ x.name) (hf : s.F.length < 256)
    (hm : MapK str h2 s.m (upd x.name (ptrV x.b) s.keys)) (m : Mod (· = s.m) h h2) : StAt h2 p { s with F := s.F ++ [x] } ∧ ∀ b, St.foot { s with F := s.F ++ [x] } p b → s.foot p b ∨ x.own b := by
  have hml := hn s.m (.inr (.inl rfl))
  have hmn : p ≠ s.m := fun e => by
    obtain ⟨es, cl, hm⟩ := mapCell a.map
    rw [← e, a.cells] at hm; cases hm
  have hk : upd x.name (ptrV x.b) s.keys = St.keys { s with F := s.F ++ [x] } := by
    rw [upd_new]
    · unfold St.keys; simp
    · intro q hq
      unfold St.keys at hq
      obtain ⟨y, hy, rfl⟩ := List.mem_map.1 hq
      exact hg y hy
  have hom : ∀ x ∈ s.F, ∀ b, x.own b → b ≠ s.m := fun x hx b hb e => by
    obtain ⟨es, cl, hm⟩ := mapCell a.map
    exact Fh.neM (a.fl x hx) hb hm e
  have hqm : ∀ x ∈ s.F, ∀ q ∈ x.qs, ∀ b, blkV q.2 = some b → b ≠ s.m := fun x hx q hq b hb e => a.psep x hx q hq b hb (.inr (.inl e))
  have hfm : ∀ b, blkG s.fv = some b → b ≠ s.m := fun b hb => by
    obtain ⟨es, cl, hm⟩ := mapCell a.map
    exact a.fat.neM hb hm
  have foot : ∀ b, St.foot { s with F := s.F ++ [x] } p b → s.foot p b ∨ x.own b := by
    rintro b (e | e | e | ⟨y, hy, e⟩)
    · exact .inl (.inl e)
    · exact .inl (.inr (.inl e))
    · exact .inl (.inr (.inr (.inl e)))
    · rcases List.mem_append.1 hy with hy | hy
      · exact .inl (.inr (.inr (.inr ⟨y, hy, e⟩)))
      · simp at hy; subst hy
        exact .inr e
  have hnew : FlAt h2 x := hx.mod m (fun b hb e => by have := ho b hb; omega) (fun q hq' => by rw [hq] at hq'; cases hq')
  refine ⟨⟨(m.block p (get_some_lt a.cells) hmn).trans a.cells, hk ▸ hm, fun y hy => ?_, ?_, fun y hy q hq' b hb e => ?_, a.fat.mod m hfm, fun y hy => ?_, ?_, a.stp, a.fatk, a.fok, fun y hy => ?_⟩, foot⟩
  · rcases List.mem_append.1 hy with hy | hy
    · exact (a.fl y hy).mod m (hom y hy) (hqm y hy)
    · simp at hy; subst hy; exact hnew
  · rw [List.pairwise_append]
    refine ⟨a.sep, List.pairwise_singleton _ _, fun y hy z hz b hb hc => ?_⟩
    simp at hz; subst hz
    have := ho b hc
    have := hn b (.inr (.inr (.inr ⟨y, hy, hb⟩)))
    omega
  · rcases List.mem_append.1 hy with hy | hy
    · exact (foot b e).elim (a.psep y hy q hq' b hb) (fun e => by have := hn2 y hy q hq' b hb; have := ho b e; omega)
    · simp at hy; subst hy; rw [hq] at hq'; cases hq'
  · rcases List.mem_append.1 hy with hy | hy
    · exact a.names y hy
    · simp at hy; subst hy; exact hl
  · show (s.F ++ [_]).length ≤ 256
    simp; omega
  · rcases List.mem_append.1 hy with hy | hy
    · exact a.pfew y hy
    · simp at hy; subst hy; rw [hq]; exact Nat.zero_le _

theorem picked_snoc : ∀ {ks : List Int} {ps : List Pc} {j : Nat} (hj : j < ps.length), picked ks (ps.take (j + 1)) = picked ks (ps.take j) ++ (if pickB (ks.drop j) then [ps[j]] else [])
  | [], ps, j, hj => by
    rw [picked_nil, picked_nil]; simp [pickB]
  | k :: ks, p :: ps, 0, _ => by
    have h1 : picked (k :: ks) ([] : List Pc) = [] := rfl
    have h2 : picked ks ([] : List Pc) = [] := by cases ks <;> rfl
    have h3 : picked (k :: ks) [p] = if k % 2 = 1 then p :: picked ks [] else picked ks [] := rfl
    simp only [List.take_succ_cons, List.take_zero, List.drop_zero]
    rw [h1, h3, h2]
    by_cases h : k % 2 = 1 <;> simp [pickB, h]
  | k :: ks, p :: ps, j + 1, hj => by
    have := picked_snoc (ks := ks) (ps := ps) (j := j) (by simpa using hj)
    simp only [List.take_succ_cons, List.drop_succ_cons, List.getElem_cons_succ]
    rw [picked, picked, this]
    split
    · rfl
    · rfl
end Go.Proofs.YtcbbdnaelimpfaaGreat
set_option linter.unusedSimpArgs false
set_option linter.unusedVariables false
namespace Go.Proofs.YtcbbdnaelimpfaaGreat
open Go.Vc
variable {K : Value → Heap → Prop} {h : Heap}

def St.flOf (s : St) (n : List UInt8) : Fl := match s.get n with | some x => x.f | none => ⟨n, [], []⟩
def npc (fs : List Fl) : Nat := (fs.map fun f => f.ps.length).sum
theorem crashAll_snoc : ∀ (ks : List Int) (fs : List Fl) (f : Fl), crashAll ks (fs ++ [f]) = crashAll ks fs ++ [f.crash (ks.drop (npc fs))]
  | ks, [], f => by simp [crashAll, npc]
  | ks, g :: fs, f => by
    rw [List.cons_append, crashAll, crashAll, crashAll_snoc, List.drop_drop]
    simp [npc]
theorem drop_tail {α : Type} (l : List α) (j : Nat) : (l.drop j).tail = l.drop (j + 1) := by rw [List.tail_drop]
theorem isT_ne : isT ≠ fT ∧ isT ≠ bT ∧ isT ≠ pT := by decide
theorem isT_aT : isT ≠ aT := by decide
theorem foot_ne {p q : Nat} {s : St} {arr : Array Value} (a : StAt h p s) (hq : h[q]? = some (.cells arr isT)) {b : Nat} (hb : s.foot p b) : b ≠ q := by
  rintro rfl
  rcases hb with e | e | e | ⟨x, hx, e⟩
  · rw [e, a.cells] at hq; cases hq
  · obtain ⟨es, cl, hm⟩ := mapCell a.map
    rw [e, hm] at hq; cases hq
  · exact a.fat.ne e hq isT_aT.symm rfl
  · exact Fh.ne (a.fl x hx) e hq isT_ne rfl

set_option maxHeartbeats 8000000 in
theorem Crash_c {p : Nat} {s : St} {v : Value} {ks : List Int} (a : StAt h p s) (hk : Its h v ks)
    (He : ∀ h', Ext h h' → ks.any (fun n => decide (n < 0)) = true → K (.tuple #[.pointer none, .int .i64 2]) h')
    (Hw : ∀ h' p' s' (L : List (List UInt8)), Ext h h' → ks.any (fun n => decide (n < 0)) = false → L.Perm (s.F.map (·.name)) → L.Pairwise (fun x y => Op.bytesLess y x = false) → StAt h' p' s' → s'.F.map Fh.f = crashAll ks (L.map s.flOf) → s'.fates = [] → s'.steps = 0 → h.size ≤ p' → (∀ b, s'.foot p' b → h.size ≤ b) → K (.tuple #[ptrV p', .int .i64 0]) h') :
    CallsH Tryz.prog 52 #[ptrV p, v] h K ⟨⟩ := by
  refine n52_calls ?_
  unfold n52
  obtain ⟨va, vc, rfl, hvc⟩ := hk.form
  simp (disch := omega)
  have e0 : Ext h (h.push (.cells #[.slice va ks.length vc] isT)) := (by repeat' (first | (with_reducible exact Ext.refl _) | (with_reducible assumption) | (with_reducible refine push_ext ?_) | (with_reducible refine hset_ext ?_ ?_) | (with_reducible refine Ext.trans ?_ (by assumption)) | omega | (simp; done) | (simp; omega) | (refine Ext.size ?_) | (refine Nat.le_succ_of_le (Ext.size ?_))))
  refine (⟨_, rfl⟩ : ∃ g, g = h.push (.cells #[.slice va ks.length vc] isT)).elim fun h0 eh0 => ?_
  have z0 : h0.size = h.size + 1 := by rw [eh0]; simp
  have q0 : h0[h.size]? = some (.cells #[.slice va ks.length vc] isT) := by rw [eh0]; exact get_pushed rfl
  rw [show h.push (.cells #[.slice va ks.length vc] 49) = h0 from eh0.symm]
  rw [← eh0] at e0
  clear eh0
  refine none_c (a.ext e0).cells ?_
  have c0 := cellOf (i := 0) q0 rfl
  simp (disch := omega) [c0]
  refine IndexI_c (hk.ext e0) (fun n => decide (n < 0)) (fun n g K hn => neg_c n g K hn) ?_
  cases hneg : ks.any (fun n => decide (n < 0)) with
  | true =>
    simp (disch := omega)
    exact He h0 e0 hneg
  | false =>
  have hpos : ∀ k ∈ ks, 0 ≤ k := fun k hkk => by
    have := List.any_eq_false.1 hneg k hkk
    simp at this; exact this
  simp (disch := omega)
  rw [Hp_makeMap]
  simp (disch := omega)
  refine (⟨_, rfl⟩ : ∃ g, g = (h0.push (.map #[] 0)).push (.cells #[.map (some h0.size), .slice none 0 0, .int .i64 0] sT)).elim fun h1 eh1 => ?_
  have e1 : Ext h0 h1 := by rw [eh1]; exact (by repeat' (first | (with_reducible exact Ext.refl _) | (with_reducible assumption) | (with_reducible refine push_ext ?_) | (with_reducible refine hset_ext ?_ ?_) | (with_reducible refine Ext.trans ?_ (by assumption)) | omega | (simp; done) | (simp; omega) | (refine Ext.size ?_) | (refine Nat.le_succ_of_le (Ext.size ?_))))
  have z1 : h1.size = h.size + 3 := by rw [eh1]; simp [z0]
  have hmk : MapK str h1 h0.size ([] : List (List UInt8 × Value)) := by
    rw [eh1]
    exact (MapK.new (h := h0) rfl).ext (by repeat' (first | (with_reducible exact Ext.refl _) | (with_reducible assumption) | (with_reducible refine push_ext ?_) | (with_reducible refine hset_ext ?_ ?_) | (with_reducible refine Ext.trans ?_ (by assumption)) | omega | (simp; done) | (simp; omega) | (refine Ext.size ?_) | (refine Nat.le_succ_of_le (Ext.size ?_))))
  have p1 : h1[h0.size + 1]? = some (.cells #[.map (some h0.size), .slice none 0 0, .int .i64 (0 : Nat)] sT) := by rw [eh1]; exact get_pushed (by simp)
  have a1 : StAt h1 (h0.size + 1) ⟨[], [], 0, h0.size, .slice none 0 0⟩ :=
    ⟨p1, hmk, fun x hx => (by cases hx), .nil, fun x hx => (by cases hx), .nil, fun x hx => (by cases hx), Nat.zero_le _, Nat.zero_lt_of_lt (show 0 < 1000000 by decide), Nat.zero_lt_of_lt (show 0 < 1000000000 by decide), fun f hf => (by cases hf), fun x hx => (by cases hx)⟩
  rw [show ((h0.push (.map #[] 0)).push (.cells #[.map (some h0.size), .slice none 0 0, .int .i64 0] 156)) = h1 from eh1.symm]
  clear eh1
  refine Names_c (a.ext (e0.trans e1)) fun h2 w L e2 pm so oL fL => ?_
  have hfew := a.few
  have hLl : L.length = s.F.length := by rw [pm.length_eq, List.length_map]
  obtain ⟨wa, wn, wc, rfl, hwl, hwc, hwne⟩ := oL.form (by omega)
  obtain rfl : wn = L.length := by simpa using hwl.symm
  simp (disch := omega)
  have z2 := e2.size
  have q2 := (e2.block h.size (by omega)).trans ((e1.block h.size (by omega)).trans q0)
  have hnd : L.Nodup := pm.nodup_iff.2 a.nodup
  refine loopX1 (α := Nat × St) (fun a => .int .i64 a.1) (fun a g => a.1 ≤ L.length ∧ Ext h g ∧ StAt g (h0.size + 1) a.2 ∧ (∀ b, a.2.foot (h0.size + 1) b → h.size ≤ b) ∧ (∃ v', g[h.size]? = some (.cells #[v'] isT) ∧ Its h v' (ks.drop (npc ((L.take a.1).map s.flOf)))) ∧ OwnT stT 1 g (.slice wa L.length wc) (L.map str)
    ∧ a.2.F.map Fh.f = crashAll ks ((L.take a.1).map s.flOf) ∧ a.2.F.map (·.name) = L.take a.1 ∧ (∀ x ∈ a.2.F, x.qs = []) ∧ a.2.fates = [] ∧ a.2.steps = 0 ∧ a.2.m = h0.size) (fun a => L.length - a.1) (0, ⟨[], [], 0, h0.size, .slice none 0 0⟩) rfl
    ⟨Nat.zero_le _, e0.trans (e1.trans e2), a1.ext e2, ?_, ⟨_, q2, by simpa [npc] using hk⟩, oL, by simp [crashAll], by simp, fun x hx => (by cases hx), rfl, rfl, rfl⟩ ?_
  · rintro b (e | e | e | ⟨x, hx, -⟩)
    · omega
    · have e' : b = h0.size := e; omega
    · cases e
    · cases hx
  rintro ⟨i, s'⟩ g ⟨hi, eg, sa, hft, ⟨v', gq, hk'⟩, og, hF', hN', hQ', hfa, hst, hm'⟩ X hX
  dsimp only at hi sa hft gq hk' og hF' hN' hQ' hfa hst hm' hX ⊢
  by_cases hil : i < L.length
  · obtain ⟨wb, rfl⟩ := hwne (by intro e; have h9 := congrArg List.length e; simp at h9; rw [h9] at hil; simp at hil)
    have ci := (og.elt (i := i) (by simpa using hil)).1
    have ce : (L.map str)[i]'(by simpa using hil) = str L[i] := by simp
    rw [ce] at ci
    have hmem : L[i] ∈ s.F.map (·.name) := pm.mem_iff.1 (List.getElem_mem hil)
    obtain ⟨x, hx, hxn⟩ := List.mem_map.1 hmem
    have hxg : s.get L[i] = some x := by rw [← hxn]; exact (psOf_mem a hx).1
    have hfo : s.flOf L[i] = x.f := by unfold St.flOf; rw [hxg]
    have ag := a.ext eg
    have pc0 := cellOf (i := 0) ag.cells rfl
    have hmg := ag.map
    unfold St.keys at hmg
    have lk := look_keys (l := L[i]) s.F
    have hxg' : s.F.find? (fun x => decide (x.name = L[i])) = some x := hxg
    rw [hxg'] at lk
    have hfl := ag.fl x hx
    have hfl0 := a.fl x hx
    have x0 := cellOf (i := 0) hfl.cells rfl
    have x1 := cellOf (i := 1) hfl.cells rfl
    obtain ⟨la, ln, lc, hlv, hll, hlc, -⟩ := hfl.last.form
    have hpf := a.pfew x hx
    have hst0 := a.stp
    have hlast : x.last.length ≤ 268435456 := hfl.ok.few
    obtain rfl : ln = x.last.length := by simpa using hll.symm
    have x0' : hcell g ⟨x.b, 0, none⟩ = some (.slice la x.last.length lc) := hlv ▸ x0
    obtain ⟨pa, pn, pc, hpv, hpl, hpc, hpne⟩ := hfl.ps.form
    rw [pcV_len] at hpl
    obtain rfl : pn = x.qs.length := by omega
    have op := hfl.ps
    have ol := hfl.last
    rw [hpv] at op
    rw [hlv] at ol
    unfold ptrV
    simp (disch := omega) [ci, pc0]
    rw [Hp_lookup storeKey (z := .pointer none) (by kernel_rfl) hmg, lk]
    simp (disch := omega) [ptrV, x0']
    refine bclone_c ol.src ⟨_, _, rfl⟩ (one_bytes _) (by omega) fun bv g1 eg1 ob fb fb' => ?_
    have x1' : hcell g1 ⟨x.b, 1, none⟩ = some (.slice pa x.qs.length pc) := hpv ▸ cellOf (i := 1) (hfl.ext eg1).cells rfl
    have gq1 := (eg1.block h.size (get_some_lt gq)).trans gq
    have hgz := eg.size
    have hg1z := eg1.size
    have hpcs : x.f.ps = x.qs.map (·.1) := rfl
    have hpsl : x.f.ps.length = x.qs.length := by rw [hpcs, List.length_map]
    simp (disch := omega) [x1']
    have hq0 := get_some_lt gq
    refine loopX1 (α := Nat) (fun j => .int .i64 j) (fun j g2 => j ≤ x.qs.length ∧ Mod (· = h.size) g g2 ∧ (∃ v2, g2[h.size]? = some (.cells #[v2] isT) ∧ Its h v2 ((ks.drop (npc ((L.take i).map s.flOf))).drop j)) ∧ OwnG bT 1 g2 bv ((layAll x.last (picked (ks.drop (npc ((L.take i).map s.flOf))) (x.f.ps.take j))).map byteV))
      (fun j => x.qs.length - j) 0 rfl ⟨Nat.zero_le _, .of_ext eg1, ⟨v', gq1, by simpa using hk'⟩, by
        have : picked (ks.drop (npc ((L.take i).map s.flOf))) (x.f.ps.take 0) = [] := by rw [List.take_zero]; cases (ks.drop (npc ((L.take i).map s.flOf))) <;> rfl
        rw [this]; exact ob⟩ ?_
    generalize hKS : ks.drop (npc ((L.take i).map s.flOf)) = KS at *
    have hKpos : ∀ k ∈ KS, 0 ≤ k := fun k hk => hpos k (by rw [← hKS] at hk; exact List.mem_of_mem_drop hk)
    rintro j g2 ⟨hj, m2, ⟨v2, gq2, hk2⟩, ob2⟩ Y hY
    have eg2 : Ext h g2 := m2.ext_from eg (fun b hb e => by omega)
    by_cases hjq : j < x.qs.length
    · obtain ⟨pb, po, rfl⟩ := hpne (by intro e; have := pcV_len x.qs; rw [e] at this; simp at this; omega)
      have opg : OwnG pT 2 g2 (.slice (some ⟨pb, po, none⟩) x.qs.length pc) (x.qs.flatMap pcV) := by
        exact op.mod m2 (fun c hc e => op.ne hc gq isT_ne.2.2.symm e)
      obtain ⟨r1, r2⟩ := piece_cell (v := x.pv) opg hjq
      have hqm : x.qs[j] ∈ x.qs := List.getElem_mem hjq
      have hqb : Bytes g2 x.qs[j].2 x.qs[j].1.b := (hfl0.bs _ hqm).ext eg2
      obtain ⟨qa, qc, hqv⟩ := hqb.form
      obtain ⟨qok, qfit⟩ := hfl.ok.pc x.qs[j].1 (List.mem_map_of_mem hqm)
      have qpos := qok.pos
      have qfit : x.qs[j].1.at_ + x.qs[j].1.b.length ≤ x.last.length := qfit
      rw [hqv] at r2 hqb
      simp (disch := omega)
      refine JoinN.mk ?_
      refine JoinN.mk ?_
      simp (disch := omega) [r1, r2]
      refine (⟨_, rfl⟩ : ∃ f, f = hset (hset (g2.push (.cells #[.int .i64 0, .slice none 0 0] 162)) ⟨g2.size, 0, none⟩ (.int .i64 x.qs[j].1.at_)) ⟨g2.size, 1, none⟩ (.slice qa x.qs[j].1.b.length qc)).elim fun g3 eg3 => ?_
      have e3 : Ext g2 g3 := by rw [eg3]; exact (by repeat' (first | (with_reducible exact Ext.refl _) | (with_reducible assumption) | (with_reducible refine push_ext ?_) | (with_reducible refine hset_ext ?_ ?_) | (with_reducible refine Ext.trans ?_ (by assumption)) | omega | (simp; done) | (simp; omega) | (refine Ext.size ?_) | (refine Nat.le_succ_of_le (Ext.size ?_))))
      have cP : g3[g2.size]? = some (.cells #[.int .i64 x.qs[j].1.at_, .slice qa x.qs[j].1.b.length qc] 162) := by rw [eg3]; exact obj_set (obj_set (get_pushed rfl))
      rw [← eg3]
      clear eg3
      have gq3 := (e3.block h.size (get_some_lt gq2)).trans gq2
      refine nextp_c gq3 (hk2.ext (eg2.trans e3)) (fun k hk => hKpos k (List.mem_of_mem_drop hk)) fun g4 v4 gq4 hv4 m4 => ?_
      have hk4 : Its h v4 (KS.drop (j + 1)) := by rw [← drop_tail]; exact hv4 h hk2
      have hps := picked_snoc (ks := KS) (ps := x.f.ps) (j := j) (by omega)
      have hpj : x.f.ps[j]'(by omega) = x.qs[j].1 := by simp [hpcs]
      rw [hpj] at hps
      have hz2 := m2.size
      have hz3 := e3.size
      have cP4 := (m4.block g2.size (get_some_lt cP) (by omega)).trans cP
      have ob4 : OwnG bT 1 g4 bv ((layAll x.last (picked KS (x.f.ps.take j))).map byteV) := (ob2.ext e3).mod m4 (fun c hc e => by have := fb c hc; omega)
      have m24 : Mod (· = h.size) g g4 := (m2.extIn e3).trans m4 (fun b _ e => e)
      have k0 := cellOf (i := 0) cP4 rfl
      have k1 := cellOf (i := 1) cP4 rfl
      cases hpb : pickB (KS.drop j) with
      | false =>
        rw [hpb] at hps
        simp at hps
        simp (disch := omega)
        exact hY (j + 1) _ _ (by simp) ⟨hjq, m24, ⟨v4, gq4, hk4⟩, by rw [hps]; exact ob4⟩ (by omega)
      | true =>
        rw [hpb] at hps
        simp only [if_true] at hps
        have hlay : (layAll x.last (picked KS (x.f.ps.take j))).length = x.last.length := layAll_len fun q hq => (hfl.ok.pc q (List.mem_of_mem_take (picked_sub hq))).2
        obtain ⟨ba, bn, bc, rfl, hbl, hbc, hbne⟩ := ob4.form
        obtain rfl : bn = x.last.length := by simp [hlay] at hbl; omega
        obtain ⟨bb, bo, rfl⟩ := hbne (by intro e; rw [e] at hbl; simp at hbl; omega)
        have hqb4 : Bytes g4 (.slice qa x.qs[j].1.b.length qc) x.qs[j].1.b := by
          have : Ext h g4 := m4.ext_from (eg2.trans e3) (fun b hb e => by omega)
          have := (hfl0.bs _ hqm).ext this
          rw [hqv] at this; exact this
        simp (disch := omega) [k0, k1]
        refine Hp_copyG (e := bT) (lo := x.qs[j].1.at_) (m := x.last.length - x.qs[j].1.at_) (by kernel_rfl) ob4 (by omega) hqb4 fun g5 o5 m5 => ?_
        simp (disch := omega)
        have ht : x.qs[j].1.b.take (x.last.length - x.qs[j].1.at_) = x.qs[j].1.b := List.take_of_length_le (by omega)
        rw [ht] at o5
        have hbq : ∀ c, blkG (.slice (some ⟨bb, bo, none⟩) x.last.length bc) = some c → g.size ≤ c := fb
        refine hY (j + 1) _ _ (by simp) ⟨hjq, m24.trans m5 (fun b hb e => by have := hbq b e; omega), ⟨v4, (m5.block h.size (get_some_lt gq4) (fun e => by have := hbq _ e; omega)).trans gq4, hk4⟩, ?_⟩ (by omega)
        rw [hps, layAll_append]
        exact o5
    · obtain rfl : j = x.qs.length := by omega
      have sa2 : StAt g2 (h0.size + 1) s' := sa.mod m2 (fun b hb e => foot_ne sa gq hb e) (fun y hy q hq => by rw [hQ' y hy] at hq; cases hq)
      have d0 := cellOf (i := 0) sa2.cells rfl
      have d0' : hcell g2 ⟨h0.size + 1, 0, none⟩ = some (.map (some h0.size)) := hm' ▸ d0
      have hz2 := m2.size
      rw [← hpsl, List.take_length] at ob2
      rw [← hpsl] at hk2
      have hcr : layAll x.last (picked KS x.f.ps) = (x.f.crash KS).last := rfl
      rw [hcr] at ob2
      obtain ⟨ba, bn, bc, rfl, hbl, hbc, -⟩ := ob2.form
      have hcl := hfl.ok.crash_len KS
      obtain rfl : bn = x.last.length := by have h9 : x.f.last.length = x.last.length := rfl; simp at hbl; omega
      simp (disch := omega) [d0']
      refine bclone_c ob2.src ⟨_, _, rfl⟩ (one_bytes _) (by omega) fun nv g3 e3 on fn fn' => ?_
      have d3 := cellOf (i := 0) (sa2.ext e3).cells rfl
      have d3' : hcell g3 ⟨h0.size + 1, 0, none⟩ = some (.map (some h0.size)) := hm' ▸ d3
      have hl3 := get_some_lt (sa2.ext e3).cells
      obtain ⟨na, nn, nc, rfl, -, -, -⟩ := on.form
      have hz3 := e3.size
      have hne3 : ¬ h0.size + 1 = g3.size := by omega
      have hh3 : ¬ h0.size = g3.size := by omega
      simp (disch := omega) [d3', hne3]
      have e4 : Ext g3 (g3.push (.cells #[.slice ba x.last.length bc, .slice none 0 0, .slice na nn nc] fT)) := (by repeat' (first | (with_reducible exact Ext.refl _) | (with_reducible assumption) | (with_reducible refine push_ext ?_) | (with_reducible refine hset_ext ?_ ?_) | (with_reducible refine Ext.trans ?_ (by assumption)) | omega | (simp; done) | (simp; omega) | (refine Ext.size ?_) | (refine Nat.le_succ_of_le (Ext.size ?_))))
      have sa4 := (sa2.ext e3).ext e4
      have hmm := sa4.map
      rw [hm'] at hmm
      refine Hp_mapUpdate storeKey hmm fun g5 m5 md => ?_
      simp (disch := omega)
      have okc := hfl.ok.crash KS
      have hxf : FlAt (g3.push (.cells #[.slice ba x.last.length bc, .slice none 0 0, .slice na nn nc] fT)) ⟨L[i], (x.f.crash KS).last, [], g3.size, .slice ba x.last.length bc, .slice none 0 0, .slice na nn nc⟩ := by
        refine ⟨get_pushed rfl, (ob2.ext e3).ext e4, on.ext e4, .nil, fun q hq => (by cases hq), ⟨okc.few, fun q hq => (by cases hq)⟩, fun c hc e => ?_, fun q hq => (by cases hq)⟩
        have h1 := fn c e
        have h2 := ob2.lt hc
        omega
      have own' : ∀ c, Fh.own ⟨L[i], (x.f.crash KS).last, [], g3.size, .slice ba x.last.length bc, .slice none 0 0, .slice na nn nc⟩ c → g.size ≤ c := by
        rintro c (e | e | e | e)
        · have e' : c = g3.size := e; omega
        · exact fb c e
        · cases e
        · have := fn c e; omega
      have hnew : ∀ y ∈ s'.F, y.name ≠ L[i] := fun y hy e => by
        have hy' : y.name ∈ L.take i := hN' ▸ List.mem_map_of_mem hy
        obtain ⟨k, hk, hkk⟩ := List.getElem_of_mem hy'
        rw [List.getElem_take] at hkk
        have hki : k < i := by rw [List.length_take] at hk; omega
        have := (List.nodup_iff_pairwise_ne.1 hnd)
        have := List.pairwise_iff_getElem.1 this k i (by omega) hil hki
        exact this (hkk.trans e)
      have hlen' : s'.F.length = i := by
        have := congrArg List.length hN'
        rw [List.length_map, List.length_take] at this; omega
      have m5' : MapK str g5 s'.m (upd L[i] (ptrV g3.size) s'.keys) := by rw [hm']; exact m5
      have md' : Mod (· = s'.m) (g3.push (.cells #[.slice ba x.last.length bc, .slice none 0 0, .slice na nn nc] fT)) g5 := by rw [hm']; exact md
      obtain ⟨sa5, ft5⟩ := sa4.addG (n := g.size) (x := ⟨L[i], (x.f.crash KS).last, [], g3.size, .slice ba x.last.length bc, .slice none 0 0, .slice na nn nc⟩) (fun b hb => sa.lt hb) (fun y hy q hq => by rw [hQ' y hy] at hq; cases hq) hxf rfl own' (hxn ▸ a.names x hx) hnew (by omega) m5' md'
      have eg5 : Ext h g5 := md.ext_from ((m2.ext_from eg (fun b hb e => by omega)).trans (e3.trans e4)) (fun b hb e => by omega)
      have gq5 := (md.block h.size (Nat.lt_of_lt_of_le (get_some_lt gq2) (Nat.le_trans hz3 e4.size)) (fun e => by have e' : h.size = h0.size := e; omega)).trans ((e4.block _ (by have := get_some_lt gq2; omega)).trans ((e3.block _ (get_some_lt gq2)).trans gq2))
      have tk : (L.take (i + 1)).map s.flOf = (L.take i).map s.flOf ++ [x.f] := by
        rw [List.take_succ_eq_append_getElem hil, List.map_append, ← hfo]; rfl
      have hnp : npc ((L.take (i + 1)).map s.flOf) = npc ((L.take i).map s.flOf) + x.f.ps.length := by rw [tk]; simp [npc]
      refine hX (i + 1, _) _ _ (by simp) ⟨hil, eg5, sa5, fun b hb => (ft5 b hb).elim (hft b) (fun e => by have := own' b e; omega), ⟨v2, gq5, ?_⟩, ?_, ?_, ?_, ?_, hfa, hst, hm'⟩ (by dsimp only; omega)
      · dsimp only
        rw [hnp, ← List.drop_drop, hKS]; exact hk2
      · have og2 : OwnT stT 1 g2 (.slice (some ⟨wb, 0, none⟩) L.length wc) (L.map str) := og.mod m2 (fun b hb e => og.ne hb gq (by decide) e)
        exact ((og2.ext e3).ext e4).mod md (fun b hb e => by
          obtain ⟨es, cl, hmc⟩ := mapCell hmm
          exact ((og2.ext e3).ext e4).neM hb hmc e)
      · dsimp only
        rw [List.map_append, hF', tk, crashAll_snoc, hKS]
        have : (⟨L[i], (x.f.crash KS).last, []⟩ : Fl) = x.f.crash KS := by
          have : L[i] = x.f.name := hxn.symm
          rw [this]; rfl
        rw [← this]; rfl
      · dsimp only
        rw [List.map_append, hN', List.take_succ_eq_append_getElem hil]; rfl
      · intro y hy
        rcases List.mem_append.1 hy with hy | hy
        · exact hQ' y hy
        · simp at hy; subst hy; rfl
  · obtain rfl : i = L.length := by omega
    simp (disch := omega)
    rw [List.take_length] at hF'
    exact Hw g _ s' L eg hneg pm so sa hF' hfa hst (by omega) hft
end Go.Proofs.YtcbbdnaelimpfaaGreat
set_option linter.unusedSimpArgs false
set_option linter.unusedVariables false
namespace Go.Proofs.YtcbbdnaelimpfaaGreat
open Go.Vc
variable {K : Value → Heap → Prop} {h : Heap}

def i64 (n : Int) : Prop := -9223372036854775808 ≤ n ∧ n < 9223372036854775808
structure Stp where
  kind : Int
  n : Int
  at_ : Int
  name : List UInt8
  bv : Value
  fv : Value
  pv : Value
  b : List UInt8
  fs : List (Int × Int)
  pl : List Int
def Stp.cells (x : Stp) : List Value := [.int .i64 x.kind, .int .i64 x.n, .int .i64 x.at_, str x.name, x.bv, x.fv, x.pv]
structure StpOk (h : Heap) (x : Stp) : Prop where
  kind : i64 x.kind
  n : i64 x.n
  at_ : i64 x.at_
  name : x.name.length < 9223372036854775808
  b : Bytes h x.bv x.b
  bl : x.b.length < 9223372036854775808
  fs : Fas h x.fv x.fs
  pl : Its h x.pv x.pl
theorem StpOk.ext {h' : Heap} {x : Stp} (a : StpOk h x) (e : Ext h h') : StpOk h' x := ⟨a.kind, a.n, a.at_, a.name, a.b.ext e, a.bl, a.fs.ext e, a.pl.ext e⟩
structure Sps (h : Heap) (v : Value) (xs : List Stp) : Prop where
  slc : Slc 7 h v (fun us x => us = x.cells) xs
  ok : ∀ x ∈ xs, StpOk h x
  len : xs.length < 9223372036854775808
theorem slc_ext {α : Type} {s : Nat} {h' : Heap} {v : Value} {R : List Value → α → Prop} {xs : List α} (a : Slc s h v R xs) (e : Ext h h') : Slc s h' v R xs := by
  rcases a with a | ⟨a, c, h1, h2, h3⟩
  · exact .inl a
  · refine .inr ⟨a, c, h1, h2, fun i hi => ?_⟩
    obtain ⟨us, h4, h5, h6⟩ := h3 i hi
    exact ⟨us, h4, h5.ext e, h6⟩
theorem Sps.ext {h' : Heap} {v : Value} {xs : List Stp} (a : Sps h v xs) (e : Ext h h') : Sps h' v xs := ⟨slc_ext a.slc e, fun x hx => (a.ok x hx).ext e, a.len⟩
theorem Sps.form {v : Value} {xs : List Stp} (a : Sps h v xs) : ∃ o c, v = .slice o xs.length c := Slc.form a.slc
theorem Sps.cell {v : Value} {xs : List Stp} (s : Sps h v xs) {i : Nat} (hi : i < xs.length) : ∃ a c, v = .slice (some a) xs.length c ∧ hcell h (elt a (i * 7)) = some (.int .i64 xs[i].kind) ∧ hcell h (elt a (i * 7 + 1)) = some (.int .i64 xs[i].n) ∧
    hcell h (elt a (i * 7 + 2)) = some (.int .i64 xs[i].at_) ∧ hcell h (elt a (i * 7 + 3)) = some (str xs[i].name) ∧ hcell h (elt a (i * 7 + 4)) = some xs[i].bv ∧ hcell h (elt a (i * 7 + 5)) = some xs[i].fv ∧ hcell h (elt a (i * 7 + 6)) = some xs[i].pv := by
  rcases s.slc with ⟨h1, rfl⟩ | ⟨a, c, h1, h2, h3⟩
  · cases hi
  · obtain ⟨us, -, h5, rfl⟩ := h3 i hi
    have := fun j hj => h5 j hj
    unfold Stp.cells at this
    have e0 := this 0 (by simp)
    have e1 := this 1 (by simp)
    have e2 := this 2 (by simp)
    have e3 := this 3 (by simp)
    have e4 := this 4 (by simp)
    have e5 := this 5 (by simp)
    have e6 := this 6 (by simp)
    rw [elt_elt] at e0 e1 e2 e3 e4 e5 e6
    exact ⟨a, c, h1, e0, e1, e2, e3, e4, e5, e6⟩
theorem slc_seg {α : Type} {s : Nat} {a : Addr} {f : α → List Value} : ∀ (xs : List α) (k : Nat), (∀ x, (f x).length = s) → (∀ (i : Nat) (hi : i < xs.length), Seg h (elt a ((k + i) * s)) (f xs[i])) → Seg h (elt a (k * s)) (xs.flatMap f)
  | [], k, _, _ => fun i hi => by simp at hi
  | x :: xs, k, hf, H => by
    have ih := slc_seg xs (k + 1) hf (fun i hi => by
      have := H (i + 1) (by simpa using hi)
      rw [show k + 1 + i = k + (i + 1) by omega]
      simpa using this)
    have h0 := H 0 (by simp)
    intro i hi
    rw [List.flatMap_cons] at hi
    by_cases h1 : i < (f x).length
    · have := h0 i (by simpa using h1)
      simp only [Nat.add_zero, List.getElem_cons_zero] at this
      rw [this]
      simp only [List.flatMap_cons]
      rw [List.getElem_append_left h1]
    · have hl := hf x
      have := ih (i - s) (by rw [List.length_append] at hi; omega)
      rw [elt_elt, Nat.add_mul, Nat.one_mul, show k * s + s + (i - s) = k * s + i by omega] at this
      rw [elt_elt, this]
      simp only [List.flatMap_cons]
      rw [List.getElem_append_right (by omega)]
      simp only [hl]
theorem Fas.of {v : Value} {fs : List (Int × Int)} (s : Slc 2 h v (fun us f => us = faV f) fs) (hl : fs.length < 9223372036854775808) (ho : ∀ f ∈ fs, i64 f.1 ∧ i64 f.2) : Fas h v fs := by
  refine ⟨?_, ?_, hl, fun f hf => ⟨(ho f hf).1.1, (ho f hf).1.2, (ho f hf).2.1, (ho f hf).2.2⟩⟩
  · rcases s with ⟨rfl, rfl⟩ | ⟨a, c, rfl, h2, h3⟩
    · exact .inl ⟨rfl, rfl, rfl⟩
    · refine .inr (.inl ⟨a, c, rfl, faV_len _, ?_⟩)
      have := slc_seg (h := h) (a := a) (s := 2) (f := faV) fs 0 (fun x => rfl) (fun i hi => by
        obtain ⟨us, -, h5, rfl⟩ := h3 i hi
        rw [Nat.zero_add]; exact h5)
      simpa using this
  · rcases s with ⟨rfl, rfl⟩ | ⟨a, c, rfl, h2, h3⟩
    · exact ⟨none, 0, rfl, Nat.le_refl _⟩
    · exact ⟨_, c, rfl, h2⟩
theorem flat1 : ∀ l : List Int, l.flatMap (fun n => [inV n]) = l.map inV
  | [] => rfl
  | x :: l => by rw [List.flatMap_cons, flat1 l]; rfl
theorem Its.of {v : Value} {l : List Int} (s : Slc 1 h v (fun us n => us = [inV n]) l) (hl : l.length < 9223372036854775808) (ho : ∀ n ∈ l, i64 n) : Its h v l := by
  refine ⟨?_, ?_, hl, fun f hf => ho f hf⟩
  · rcases s with ⟨rfl, rfl⟩ | ⟨a, c, rfl, h2, h3⟩
    · exact .inl ⟨rfl, rfl, rfl⟩
    · refine .inr (.inl ⟨a, c, rfl, by simp, ?_⟩)
      have := slc_seg (h := h) (a := a) (s := 1) (f := fun n => [inV n]) l 0 (fun x => rfl) (fun i hi => by
        obtain ⟨us, -, h5, rfl⟩ := h3 i hi
        rw [Nat.zero_add]; exact h5)
      have e : l.flatMap (fun n => [inV n]) = l.map inV := flat1 l
      rw [e] at this
      simpa using this
  · rcases s with ⟨rfl, rfl⟩ | ⟨a, c, rfl, h2, h3⟩
    · exact ⟨none, 0, rfl, Nat.le_refl _⟩
    · exact ⟨_, c, rfl, h2⟩

section
open Go Go.ChangeShapes Go.WideShapes Go.ChangeAt Go.RowKit Go.Deep
variable {H : Type} {enc : TypeId × Value → H} {w : World} {base : Nat} {sp : Nat → Bool} {held : Bool}
theorem i64_of {n : Int} (h : IntKind.i64.min ≤ n ∧ n ≤ IntKind.i64.max) : i64 n := by
  have h1 : IntKind.i64.min = -9223372036854775808 := by decide
  have h2 : IntKind.i64.max = 9223372036854775807 := by decide
  unfold i64; omega
theorem laid_fate {cs : List Value} (h : Laid enc Tryz.prog w base sp held 118 cs) : ∃ f : Int × Int, cs = faV f ∧ i64 f.1 ∧ i64 f.2 := by
  obtain ⟨hl, hL⟩ := h.flds (L := [(116, 0, 1), (3, 1, 1)]) (n := 2) (by kernel_rfl) (by kernel_rfl)
  obtain ⟨c0, c1, rfl⟩ := len2 hl
  obtain ⟨n0, hn0, r0, r0'⟩ := (hL 0 _ _ _ rfl).int (k := .i64) (by kernel_rfl)
  obtain rfl : c0 = .int .i64 n0 := by simpa using hn0
  obtain ⟨n1, hn1, r1, r1'⟩ := (hL 1 _ _ _ rfl).int (k := .i64) (by kernel_rfl)
  obtain rfl : c1 = .int .i64 n1 := by simpa using hn1
  exact ⟨(n0, n1), rfl, i64_of ⟨r0, r0'⟩, i64_of ⟨r1, r1'⟩⟩
theorem max63 {n : Nat} (h : n ≤ maxLen) : n < 9223372036854775808 := Nat.lt_of_le_of_lt h (by decide)
theorem slc_ok {α : Type} {s : Nat} {h : Heap} {v : Value} {R : List Value → α → Prop} {q : α → Prop} {f : α → List Value} {xs : List α} (a : Slc s h v R xs) (hR : ∀ us x, R us x → us = f x ∧ q x) : Slc s h v (fun us x => us = f x) xs ∧ ∀ x ∈ xs, q x := by
  rcases a with ⟨rfl, rfl⟩ | ⟨a, c, rfl, h2, h3⟩
  · exact ⟨.inl ⟨rfl, rfl⟩, fun x hx => by cases hx⟩
  · refine ⟨.inr ⟨a, c, rfl, h2, fun i hi => ?_⟩, fun x hx => ?_⟩
    · obtain ⟨us, h4, h5, h6⟩ := h3 i hi
      exact ⟨us, h4, h5, (hR _ _ h6).1⟩
    · obtain ⟨i, hi, rfl⟩ := List.getElem_of_mem hx
      obtain ⟨us, h4, h5, h6⟩ := h3 i hi
      exact (hR _ _ h6).2
theorem laid_fates {cs : List Value} (h : Laid enc Tryz.prog w base sp held 48 cs) : ∃ (v : Value) (fs : List (Int × Int)), cs = [v] ∧ Fas w.heap v fs := by
  obtain ⟨v, fs, rfl, hs, hl⟩ := h.slice (e := 118) (R := fun us (f : Int × Int) => us = faV f ∧ i64 f.1 ∧ i64 f.2) (by kernel_rfl) (fun us hu => laid_fate hu)
  have hc : Program.cellsOf Tryz.prog 118 = 2 := by kernel_rfl
  rw [hc] at hs
  obtain ⟨s1, s2⟩ := slc_ok (f := faV) hs (fun us x hx => hx)
  exact ⟨v, fs, rfl, Fas.of s1 (max63 hl) s2⟩
theorem laid_ints {cs : List Value} (h : Laid enc Tryz.prog w base sp held 49 cs) : ∃ (v : Value) (l : List Int), cs = [v] ∧ Its w.heap v l := by
  obtain ⟨v, l, rfl, hs, hl⟩ := h.slice (e := 3) (R := fun us (n : Int) => us = [inV n] ∧ i64 n) (by kernel_rfl) (fun us hu => by
    obtain ⟨n, e, r⟩ := hu.int (k := .i64) (by kernel_rfl)
    exact ⟨n, e, i64_of r⟩)
  have hc : Program.cellsOf Tryz.prog 3 = 1 := by kernel_rfl
  rw [hc] at hs
  obtain ⟨s1, s2⟩ := slc_ok (f := fun n => [inV n]) hs (fun us x hx => hx)
  exact ⟨v, l, rfl, Its.of s1 (max63 hl) s2⟩
end
end Go.Proofs.YtcbbdnaelimpfaaGreat
