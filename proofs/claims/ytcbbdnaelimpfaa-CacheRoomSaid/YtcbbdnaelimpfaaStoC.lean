/- Store: the sorted names. Store: a going over pieces. Store: how many pieces there are. Store: picks. Store: crashed. Store: the laws' calls. -/
import Derived.Test.YtcbbdnaelimpfaaStoB
import Derived.Test.YtcbbdnaelimpfaaSrtD
import Derived.Test.YtcbbdnaelimpfaaVcRange
import Derived.Test.YtcbbdnaelimpfaaOpen
set_option linter.unusedSimpArgs false
set_option linter.unusedVariables false
namespace Go.Proofs.Ytcbbdnaelimpfaa
open Go.Vc
variable {K : Value → Heap → Prop} {h : Heap}

def stT : Nat := 9
theorem range_filterS {α : Type} : ∀ (H : List α), (List.range H.length).filterMap (fun i => H[i]?) = H
  | [] => rfl
  | x :: l => by
    rw [List.length_cons, List.range_succ_eq_map, List.filterMap_cons]
    simp only [List.getElem?_cons_zero, List.filterMap_map]
    congr 1
    exact range_filterS l
end Go.Proofs.Ytcbbdnaelimpfaa
set_option linter.unusedSimpArgs false
set_option linter.unusedVariables false
namespace Go.Proofs.Ytcbbdnaelimpfaa
open Go.Vc
variable {K : Value → Heap → Prop} {h : Heap}

theorem faV_cell {e : Nat} {L : List (Int × Int)} {n c : Nat} {a : Addr} (o : OwnG e 2 h (.slice (some a) n c) (L.flatMap faV)) {i : Nat} (hi : i < L.length) :
    hcell h (elt a (i * 2)) = some (.int .i64 L[i].1) ∧ hcell h (elt a (i * 2 + 1)) = some (.int .i64 L[i].2) := by
  obtain ⟨h1, h2⟩ := faV_get L i hi
  have hl := faV_len L
  have c1 := (o.cell (i := i * 2) (by omega)).1
  have c2 := (o.cell (i := i * 2 + 1) (by omega)).1
  rw [List.getElem?_eq_getElem (by omega)] at h1 h2
  rw [c1, c2]
  exact ⟨h1, h2⟩

/-- What a file's pieces tell. -/
def ppL (ps : List Pc) : List (Int × Int) := ps.map fun p => ((p.at_ : Int), (p.b.length : Int))
def St.psOf (s : St) (l : List UInt8) : List Pc := if okName l then (match s.get l with | some x => x.f.ps | none => []) else []
end Go.Proofs.Ytcbbdnaelimpfaa
set_option linter.unusedSimpArgs false
set_option linter.unusedVariables false
namespace Go.Proofs.Ytcbbdnaelimpfaa
open Go.Vc
variable {K : Value → Heap → Prop} {h : Heap}

def St.pend (s : St) : Nat := (s.F.map fun x => x.f.ps.length).sum
theorem psOf_mem {p : Nat} {s : St} (a : StAt h p s) {x : Fh} (hx : x ∈ s.F) : s.get x.name = some x ∧ s.psOf x.name = x.f.ps := by
  have hg : s.get x.name = some x := by
    unfold St.get
    have nd := a.nodup
    generalize s.F = F at hx nd
    induction F with
    | nil => cases hx
    | cons y F ih =>
      rw [List.find?_cons]
      rw [List.map_cons, List.nodup_cons] at nd
      rcases List.mem_cons.1 hx with rfl | hx
      · simp
      · have : y.name ≠ x.name := fun e => nd.1 (e ▸ List.mem_map_of_mem hx)
        simp only [this, decide_false]
        exact ih hx nd.2
  refine ⟨hg, ?_⟩
  unfold St.psOf
  rw [if_pos (a.names x hx), hg]
theorem pend_perm {p : Nat} {s : St} (a : StAt h p s) {L : List (List UInt8)} (hp : L.Perm (s.F.map (·.name))) : (L.map fun n => (s.psOf n).length).sum = s.pend := by
  rw [(hp.map fun n => (s.psOf n).length).sum_nat, List.map_map]
  unfold St.pend
  congr 1
  exact List.map_congr_left fun x hx => by show (s.psOf x.name).length = _; rw [(psOf_mem a hx).2]
theorem sum_le {l : List Nat} {n : Nat} (h : ∀ x ∈ l, x ≤ n) : l.sum ≤ l.length * n := by
  induction l with
  | nil => simp
  | cons x l ih =>
    have h1 := h x List.mem_cons_self
    have h2 := ih fun y hy => h y (List.mem_cons_of_mem _ hy)
    rw [List.sum_cons, List.length_cons, Nat.add_mul]; omega
theorem psOf_le {p : Nat} {s : St} (a : StAt h p s) (l : List UInt8) : (s.psOf l).length ≤ 1000000000000 := by
  unfold St.psOf
  split
  · split
    · rename_i x hx
      have := a.pfew x (List.mem_of_find?_eq_some hx)
      have := a.stp
      have : x.f.ps.length = x.qs.length := by simp [Fh.f]
      omega
    · simp
  · simp

end Go.Proofs.Ytcbbdnaelimpfaa
set_option linter.unusedSimpArgs false
set_option linter.unusedVariables false
namespace Go.Proofs.Ytcbbdnaelimpfaa
open Go.Vc
variable {K : Value → Heap → Prop} {h : Heap}

def inV (n : Int) : Value := .int .i64 n
/-- Numbers handed in. -/
structure Its (h : Heap) (v : Value) (l : List Int) : Prop where
  src : Src 1 h v l.length (l.map inV)
  form : ∃ a c, v = .slice a l.length c ∧ l.length ≤ c
  few : l.length < 9223372036854775808
  ok : ∀ n ∈ l, -9223372036854775808 ≤ n ∧ n < 9223372036854775808
theorem Its.ext {h' : Heap} {v : Value} {l : List Int} (a : Its h v l) (e : Ext h h') : Its h' v l := ⟨a.src.ext e, a.form, a.few, a.ok⟩
theorem Its.seg {v : Value} {l : List Int} (a : Its h v l) (hl : l ≠ []) : ∃ ad c, v = .slice (some ad) l.length c ∧ l.length ≤ c ∧ Seg h ad (l.map inV) := by
  obtain ⟨a0, c, rfl, hc⟩ := a.form
  rcases a.src with ⟨e, e2, e3⟩ | ⟨ad, c', e, e2, hs⟩ | ⟨l, e, -⟩
  · exact absurd (List.length_eq_zero_iff.1 e3) hl
  · cases e; exact ⟨ad, c, rfl, hc, hs⟩
  · cases e
theorem Its.cell {v : Value} {l : List Int} (a : Its h v l) {i : Nat} (hi : i < l.length) : ∃ ad c, v = .slice (some ad) l.length c ∧ l.length ≤ c ∧ hcell h (elt ad i) = some (.int .i64 l[i]) := by
  obtain ⟨ad, c, h1, h2, h3⟩ := a.seg (by intro e; rw [e] at hi; simp at hi)
  refine ⟨ad, c, h1, h2, (h3 i (by simpa using hi)).trans ?_⟩
  simp [inV]
theorem Its.mod {S : Nat → Prop} {h' : Heap} {v : Value} {l : List Int} (a : Its h v l) (m : Mod S h h') (hS : l ≠ [] → ∀ b, blkV v = some b → ¬ S b) : Its h' v l := by
  refine ⟨?_, a.form, a.few, a.ok⟩
  rcases a.src with x | ⟨ad, c', e, e2, hs⟩ | x
  · exact .inl x
  · refine .inr (.inl ⟨ad, c', e, e2, ?_⟩)
    by_cases hl : l = []
    · subst hl
      intro i hi
      simp at hi
    · exact hs.mod m (hS hl _ (by rw [e]; rfl))
  · exact .inr (.inr x)
theorem Its.tail {k : Int} {l : List Int} {ad : Addr} {c : Nat} (a : Its h (.slice (some ad) (l.length + 1) c) (k :: l)) : Its h (.slice (some (sub ad 1 c)) l.length (c - 1)) l := by
  obtain ⟨a0, c0, he, hc⟩ := a.form
  cases he
  refine ⟨.inr (.inl ⟨_, _, rfl, by simp, ?_⟩), ⟨_, _, rfl, by simp at hc; omega⟩, by have := a.few; simp at this; omega, fun n hn => a.ok n (List.mem_cons_of_mem _ hn)⟩
  obtain ⟨ad', c', he, -, hs⟩ := a.seg (by simp)
  cases he
  have := hs.part 1 (l.length + 1) c (by omega) (by simp) (by simpa using hc)
  have e : ((k :: l).map inV).take (l.length + 1) = (k :: l).map inV := List.take_of_length_le (by simp)
  rw [e] at this
  simpa using this

def pickB : List Int → Bool
  | [] => false
  | k :: _ => decide (k % 2 = 1)
def isT : Nat := 22
/-- A file more, made anew. -/
theorem StAt.addG {p n : Nat} {s : St} {h2 : Heap} {x : Fh} (a : StAt h p s) (hn : ∀ b, s.foot p b → b < n) (hn2 : ∀ y ∈ s.F, ∀ q ∈ y.qs, ∀ b, blkV q.2 = some b → b < n) (hx : FlAt h x) (hq : x.qs = []) (ho : ∀ b, x.own b → n ≤ b) (hl : okName x.name) (hg : ∀ y ∈ s.F, y.name ≠ x.name) (hf : s.F.length < 256)
    (hm : MapK str h2 s.m (upd x.name (ptrV x.b) s.keys)) (m : Mod (· = s.m) h h2) : StAt h2 p { s with F := s.F ++ [x] } ∧ ∀ b, St.foot { s with F := s.F ++ [x] } p b → s.foot p b ∨ x.own b := by
  have hml := hn s.m (.inr (.inl rfl))
  have hmn : p ≠ s.m := fun e => by
    obtain ⟨es, cl, hm⟩ := mapCell a.map
    rw [← e, a.cells] at hm; cases hm
  have hk : upd x.name (ptrV x.b) s.keys = St.keys { s with F := s.F ++ [x] } := by
    rw [upd_new]
    · unfold St.keys; simp
    · intro q hq
      unfold St.keys at hq
      obtain ⟨y, hy, rfl⟩ := List.mem_map.1 hq
      exact hg y hy
  have hom : ∀ x ∈ s.F, ∀ b, x.own b → b ≠ s.m := fun x hx b hb e => by
    obtain ⟨es, cl, hm⟩ := mapCell a.map
    exact Fh.neM (a.fl x hx) hb hm e
  have hqm : ∀ x ∈ s.F, ∀ q ∈ x.qs, ∀ b, blkV q.2 = some b → b ≠ s.m := fun x hx q hq b hb e => a.psep x hx q hq b hb (.inr (.inl e))
  have hfm : ∀ b, blkG s.fv = some b → b ≠ s.m := fun b hb => by
    obtain ⟨es, cl, hm⟩ := mapCell a.map
    exact a.fat.neM hb hm
  have foot : ∀ b, St.foot { s with F := s.F ++ [x] } p b → s.foot p b ∨ x.own b := by
    rintro b (e | e | e | ⟨y, hy, e⟩)
    · exact .inl (.inl e)
    · exact .inl (.inr (.inl e))
    · exact .inl (.inr (.inr (.inl e)))
    · rcases List.mem_append.1 hy with hy | hy
      · exact .inl (.inr (.inr (.inr ⟨y, hy, e⟩)))
      · simp at hy; subst hy
        exact .inr e
  have hnew : FlAt h2 x := hx.mod m (fun b hb e => by have := ho b hb; omega) (fun q hq' => by rw [hq] at hq'; cases hq')
  refine ⟨⟨(m.block p (get_some_lt a.cells) hmn).trans a.cells, hk ▸ hm, fun y hy => ?_, ?_, fun y hy q hq' b hb e => ?_, a.fat.mod m hfm, fun y hy => ?_, ?_, a.stp, a.fatk, a.fok, fun y hy => ?_⟩, foot⟩
  · rcases List.mem_append.1 hy with hy | hy
    · exact (a.fl y hy).mod m (hom y hy) (hqm y hy)
    · simp at hy; subst hy; exact hnew
  · rw [List.pairwise_append]
    refine ⟨a.sep, List.pairwise_singleton _ _, fun y hy z hz b hb hc => ?_⟩
    simp at hz; subst hz
    have := ho b hc
    have := hn b (.inr (.inr (.inr ⟨y, hy, hb⟩)))
    omega
  · rcases List.mem_append.1 hy with hy | hy
    · exact (foot b e).elim (a.psep y hy q hq' b hb) (fun e => by have := hn2 y hy q hq' b hb; have := ho b e; omega)
    · simp at hy; subst hy; rw [hq] at hq'; cases hq'
  · rcases List.mem_append.1 hy with hy | hy
    · exact a.names y hy
    · simp at hy; subst hy; exact hl
  · show (s.F ++ [_]).length ≤ 256
    simp; omega
  · rcases List.mem_append.1 hy with hy | hy
    · exact a.pfew y hy
    · simp at hy; subst hy; rw [hq]; exact Nat.zero_le _

theorem picked_snoc : ∀ {ks : List Int} {ps : List Pc} {j : Nat} (hj : j < ps.length), picked ks (ps.take (j + 1)) = picked ks (ps.take j) ++ (if pickB (ks.drop j) then [ps[j]] else [])
  | [], ps, j, hj => by
    rw [picked_nil, picked_nil]; simp [pickB]
  | k :: ks, p :: ps, 0, _ => by
    have h1 : picked (k :: ks) ([] : List Pc) = [] := rfl
    have h2 : picked ks ([] : List Pc) = [] := by cases ks <;> rfl
    have h3 : picked (k :: ks) [p] = if k % 2 = 1 then p :: picked ks [] else picked ks [] := rfl
    simp only [List.take_succ_cons, List.take_zero, List.drop_zero]
    rw [h1, h3, h2]
    by_cases h : k % 2 = 1 <;> simp [pickB, h]
  | k :: ks, p :: ps, j + 1, hj => by
    have := picked_snoc (ks := ks) (ps := ps) (j := j) (by simpa using hj)
    simp only [List.take_succ_cons, List.drop_succ_cons, List.getElem_cons_succ]
    rw [picked, picked, this]
    split
    · rfl
    · rfl
end Go.Proofs.Ytcbbdnaelimpfaa
set_option linter.unusedSimpArgs false
set_option linter.unusedVariables false
namespace Go.Proofs.Ytcbbdnaelimpfaa
open Go.Vc
variable {K : Value → Heap → Prop} {h : Heap}

def St.flOf (s : St) (n : List UInt8) : Fl := match s.get n with | some x => x.f | none => ⟨n, [], []⟩
def npc (fs : List Fl) : Nat := (fs.map fun f => f.ps.length).sum
theorem crashAll_snoc : ∀ (ks : List Int) (fs : List Fl) (f : Fl), crashAll ks (fs ++ [f]) = crashAll ks fs ++ [f.crash (ks.drop (npc fs))]
  | ks, [], f => by simp [crashAll, npc]
  | ks, g :: fs, f => by
    rw [List.cons_append, crashAll, crashAll, crashAll_snoc, List.drop_drop]
    simp [npc]
theorem drop_tail {α : Type} (l : List α) (j : Nat) : (l.drop j).tail = l.drop (j + 1) := by rw [List.tail_drop]
theorem isT_ne : isT ≠ fT ∧ isT ≠ bT ∧ isT ≠ pT := by decide
theorem isT_sT : isT ≠ sT := by decide
theorem isT_aT : isT ≠ aT := by decide
theorem foot_ne {p q : Nat} {s : St} {arr : Array Value} (a : StAt h p s) (hq : h[q]? = some (.cells arr isT)) {b : Nat} (hb : s.foot p b) : b ≠ q := by
  rintro rfl
  rcases hb with e | e | e | ⟨x, hx, e⟩
  · rw [e, a.cells] at hq; cases hq
  · obtain ⟨es, cl, hm⟩ := mapCell a.map
    rw [e, hm] at hq; cases hq
  · exact a.fat.ne e hq isT_aT.symm rfl
  · exact Fh.ne (a.fl x hx) e hq isT_ne rfl

end Go.Proofs.Ytcbbdnaelimpfaa
set_option linter.unusedSimpArgs false
set_option linter.unusedVariables false
namespace Go.Proofs.Ytcbbdnaelimpfaa
open Go.Vc
variable {K : Value → Heap → Prop} {h : Heap}

def i64 (n : Int) : Prop := -9223372036854775808 ≤ n ∧ n < 9223372036854775808
/-- A call of a script. -/
structure Stp where
  kind : Int
  n : Int
  at_ : Int
  name : List UInt8
  bv : Value
  fv : Value
  pv : Value
  b : List UInt8
  fs : List (Int × Int)
  pl : List Int
def Stp.cells (x : Stp) : List Value := [.int .i64 x.kind, .int .i64 x.n, .int .i64 x.at_, str x.name, x.bv, x.fv, x.pv]
structure StpOk (h : Heap) (x : Stp) : Prop where
  kind : i64 x.kind
  n : i64 x.n
  at_ : i64 x.at_
  name : x.name.length < 9223372036854775808
  b : Bytes h x.bv x.b
  bl : x.b.length < 9223372036854775808
  fs : Fas h x.fv x.fs
  pl : Its h x.pv x.pl
theorem StpOk.ext {h' : Heap} {x : Stp} (a : StpOk h x) (e : Ext h h') : StpOk h' x := ⟨a.kind, a.n, a.at_, a.name, a.b.ext e, a.bl, a.fs.ext e, a.pl.ext e⟩
structure Sps (h : Heap) (v : Value) (xs : List Stp) : Prop where
  slc : Slc 7 h v (fun us x => us = x.cells) xs
  ok : ∀ x ∈ xs, StpOk h x
  len : xs.length < 9223372036854775808
theorem slc_ext {α : Type} {s : Nat} {h' : Heap} {v : Value} {R : List Value → α → Prop} {xs : List α} (a : Slc s h v R xs) (e : Ext h h') : Slc s h' v R xs := by
  rcases a with a | ⟨a, c, h1, h2, h3⟩
  · exact .inl a
  · refine .inr ⟨a, c, h1, h2, fun i hi => ?_⟩
    obtain ⟨us, h4, h5, h6⟩ := h3 i hi
    exact ⟨us, h4, h5.ext e, h6⟩
theorem Sps.ext {h' : Heap} {v : Value} {xs : List Stp} (a : Sps h v xs) (e : Ext h h') : Sps h' v xs := ⟨slc_ext a.slc e, fun x hx => (a.ok x hx).ext e, a.len⟩
theorem Sps.form {v : Value} {xs : List Stp} (a : Sps h v xs) : ∃ o c, v = .slice o xs.length c := Slc.form a.slc
theorem Sps.cell {v : Value} {xs : List Stp} (s : Sps h v xs) {i : Nat} (hi : i < xs.length) : ∃ a c, v = .slice (some a) xs.length c ∧ hcell h (elt a (i * 7)) = some (.int .i64 xs[i].kind) ∧ hcell h (elt a (i * 7 + 1)) = some (.int .i64 xs[i].n) ∧
    hcell h (elt a (i * 7 + 2)) = some (.int .i64 xs[i].at_) ∧ hcell h (elt a (i * 7 + 3)) = some (str xs[i].name) ∧ hcell h (elt a (i * 7 + 4)) = some xs[i].bv ∧ hcell h (elt a (i * 7 + 5)) = some xs[i].fv ∧ hcell h (elt a (i * 7 + 6)) = some xs[i].pv := by
  rcases s.slc with ⟨h1, rfl⟩ | ⟨a, c, h1, h2, h3⟩
  · cases hi
  · obtain ⟨us, -, h5, rfl⟩ := h3 i hi
    have := fun j hj => h5 j hj
    unfold Stp.cells at this
    have e0 := this 0 (by simp)
    have e1 := this 1 (by simp)
    have e2 := this 2 (by simp)
    have e3 := this 3 (by simp)
    have e4 := this 4 (by simp)
    have e5 := this 5 (by simp)
    have e6 := this 6 (by simp)
    rw [elt_elt] at e0 e1 e2 e3 e4 e5 e6
    exact ⟨a, c, h1, e0, e1, e2, e3, e4, e5, e6⟩
/-- Slices of elements of two cells, or one, from their elements. -/
theorem slc_seg {α : Type} {s : Nat} {a : Addr} {f : α → List Value} : ∀ (xs : List α) (k : Nat), (∀ x, (f x).length = s) → (∀ (i : Nat) (hi : i < xs.length), Seg h (elt a ((k + i) * s)) (f xs[i])) → Seg h (elt a (k * s)) (xs.flatMap f)
  | [], k, _, _ => fun i hi => by simp at hi
  | x :: xs, k, hf, H => by
    have ih := slc_seg xs (k + 1) hf (fun i hi => by
      have := H (i + 1) (by simpa using hi)
      rw [show k + 1 + i = k + (i + 1) by omega]
      simpa using this)
    have h0 := H 0 (by simp)
    intro i hi
    rw [List.flatMap_cons] at hi
    by_cases h1 : i < (f x).length
    · have := h0 i (by simpa using h1)
      simp only [Nat.add_zero, List.getElem_cons_zero] at this
      rw [this]
      simp only [List.flatMap_cons]
      rw [List.getElem_append_left h1]
    · have hl := hf x
      have := ih (i - s) (by rw [List.length_append] at hi; omega)
      rw [elt_elt, Nat.add_mul, Nat.one_mul, show k * s + s + (i - s) = k * s + i by omega] at this
      rw [elt_elt, this]
      simp only [List.flatMap_cons]
      rw [List.getElem_append_right (by omega)]
      simp only [hl]
theorem Fas.of {v : Value} {fs : List (Int × Int)} (s : Slc 2 h v (fun us f => us = faV f) fs) (hl : fs.length < 9223372036854775808) (ho : ∀ f ∈ fs, i64 f.1 ∧ i64 f.2) : Fas h v fs := by
  refine ⟨?_, ?_, hl, fun f hf => ⟨(ho f hf).1.1, (ho f hf).1.2, (ho f hf).2.1, (ho f hf).2.2⟩⟩
  · rcases s with ⟨rfl, rfl⟩ | ⟨a, c, rfl, h2, h3⟩
    · exact .inl ⟨rfl, rfl, rfl⟩
    · refine .inr (.inl ⟨a, c, rfl, faV_len _, ?_⟩)
      have := slc_seg (h := h) (a := a) (s := 2) (f := faV) fs 0 (fun x => rfl) (fun i hi => by
        obtain ⟨us, -, h5, rfl⟩ := h3 i hi
        rw [Nat.zero_add]; exact h5)
      simpa using this
  · rcases s with ⟨rfl, rfl⟩ | ⟨a, c, rfl, h2, h3⟩
    · exact ⟨none, 0, rfl, Nat.le_refl _⟩
    · exact ⟨_, c, rfl, h2⟩
theorem flat1 : ∀ l : List Int, l.flatMap (fun n => [inV n]) = l.map inV
  | [] => rfl
  | x :: l => by rw [List.flatMap_cons, flat1 l]; rfl
theorem Its.of {v : Value} {l : List Int} (s : Slc 1 h v (fun us n => us = [inV n]) l) (hl : l.length < 9223372036854775808) (ho : ∀ n ∈ l, i64 n) : Its h v l := by
  refine ⟨?_, ?_, hl, fun f hf => ho f hf⟩
  · rcases s with ⟨rfl, rfl⟩ | ⟨a, c, rfl, h2, h3⟩
    · exact .inl ⟨rfl, rfl, rfl⟩
    · refine .inr (.inl ⟨a, c, rfl, by simp, ?_⟩)
      have := slc_seg (h := h) (a := a) (s := 1) (f := fun n => [inV n]) l 0 (fun x => rfl) (fun i hi => by
        obtain ⟨us, -, h5, rfl⟩ := h3 i hi
        rw [Nat.zero_add]; exact h5)
      have e : l.flatMap (fun n => [inV n]) = l.map inV := flat1 l
      rw [e] at this
      simpa using this
  · rcases s with ⟨rfl, rfl⟩ | ⟨a, c, rfl, h2, h3⟩
    · exact ⟨none, 0, rfl, Nat.le_refl _⟩
    · exact ⟨_, c, rfl, h2⟩

section
open Go Go.ChangeShapes Go.WideShapes Go.ChangeAt Go.RowKit Go.Deep
variable {H : Type} {enc : TypeId × Value → H} {w : World} {base : Nat} {sp : Nat → Bool} {held : Bool}
theorem i64_of {n : Int} (h : IntKind.i64.min ≤ n ∧ n ≤ IntKind.i64.max) : i64 n := by
  have h1 : IntKind.i64.min = -9223372036854775808 := by decide
  have h2 : IntKind.i64.max = 9223372036854775807 := by decide
  unfold i64; omega
theorem laid_fate {cs : List Value} (h : Laid enc Try.prog w base sp held 98 cs) : ∃ f : Int × Int, cs = faV f ∧ i64 f.1 ∧ i64 f.2 := by
  obtain ⟨hl, hL⟩ := h.flds (L := [(96, 0, 1), (3, 1, 1)]) (n := 2) (by kernel_rfl) (by kernel_rfl)
  obtain ⟨c0, c1, rfl⟩ := len2 hl
  obtain ⟨n0, hn0, r0, r0'⟩ := (hL 0 _ _ _ rfl).int (k := .i64) (by kernel_rfl)
  obtain rfl : c0 = .int .i64 n0 := by simpa using hn0
  obtain ⟨n1, hn1, r1, r1'⟩ := (hL 1 _ _ _ rfl).int (k := .i64) (by kernel_rfl)
  obtain rfl : c1 = .int .i64 n1 := by simpa using hn1
  exact ⟨(n0, n1), rfl, i64_of ⟨r0, r0'⟩, i64_of ⟨r1, r1'⟩⟩
theorem max63 {n : Nat} (h : n ≤ maxLen) : n < 9223372036854775808 := Nat.lt_of_le_of_lt h (by decide)
theorem slc_ok {α : Type} {s : Nat} {h : Heap} {v : Value} {R : List Value → α → Prop} {q : α → Prop} {f : α → List Value} {xs : List α} (a : Slc s h v R xs) (hR : ∀ us x, R us x → us = f x ∧ q x) : Slc s h v (fun us x => us = f x) xs ∧ ∀ x ∈ xs, q x := by
  rcases a with ⟨rfl, rfl⟩ | ⟨a, c, rfl, h2, h3⟩
  · exact ⟨.inl ⟨rfl, rfl⟩, fun x hx => by cases hx⟩
  · refine ⟨.inr ⟨a, c, rfl, h2, fun i hi => ?_⟩, fun x hx => ?_⟩
    · obtain ⟨us, h4, h5, h6⟩ := h3 i hi
      exact ⟨us, h4, h5, (hR _ _ h6).1⟩
    · obtain ⟨i, hi, rfl⟩ := List.getElem_of_mem hx
      obtain ⟨us, h4, h5, h6⟩ := h3 i hi
      exact (hR _ _ h6).2
theorem laid_fates {cs : List Value} (h : Laid enc Try.prog w base sp held 61 cs) : ∃ (v : Value) (fs : List (Int × Int)), cs = [v] ∧ Fas w.heap v fs := by
  obtain ⟨v, fs, rfl, hs, hl⟩ := h.slice (e := 98) (R := fun us (f : Int × Int) => us = faV f ∧ i64 f.1 ∧ i64 f.2) (by kernel_rfl) (fun us hu => laid_fate hu)
  have hc : Program.cellsOf Try.prog 98 = 2 := by kernel_rfl
  rw [hc] at hs
  obtain ⟨s1, s2⟩ := slc_ok (f := faV) hs (fun us x hx => hx)
  exact ⟨v, fs, rfl, Fas.of s1 (max63 hl) s2⟩
theorem laid_ints {cs : List Value} (h : Laid enc Try.prog w base sp held 22 cs) : ∃ (v : Value) (l : List Int), cs = [v] ∧ Its w.heap v l := by
  obtain ⟨v, l, rfl, hs, hl⟩ := h.slice (e := 3) (R := fun us (n : Int) => us = [inV n] ∧ i64 n) (by kernel_rfl) (fun us hu => by
    obtain ⟨n, e, r⟩ := hu.int (k := .i64) (by kernel_rfl)
    exact ⟨n, e, i64_of r⟩)
  have hc : Program.cellsOf Try.prog 3 = 1 := by kernel_rfl
  rw [hc] at hs
  obtain ⟨s1, s2⟩ := slc_ok (f := fun n => [inV n]) hs (fun us x hx => hx)
  exact ⟨v, l, rfl, Its.of s1 (max63 hl) s2⟩
set_option maxRecDepth 100000 in
theorem open_fates {v : Value} {r : Reach} {b0 : Nat} {ps : List MemPlace} {d : DataW H} (hval : Value.okWide Try.prog w r b0 61 v) (hd : DataW.Trod enc Try.prog w base sp held 61 v d ps) : ∃ fs, Fas w.heap v fs := by
  obtain ⟨v', fs, hv, hs⟩ := laid_fates (Laid.top hval hd (by kernel_rfl))
  obtain rfl : v = v' := by simpa using hv
  exact ⟨fs, hs⟩
set_option maxRecDepth 100000 in
theorem open_its {v : Value} {r : Reach} {b0 : Nat} {ps : List MemPlace} {d : DataW H} (hval : Value.okWide Try.prog w r b0 22 v) (hd : DataW.Trod enc Try.prog w base sp held 22 v d ps) : ∃ l, Its w.heap v l := by
  obtain ⟨v', l, hv, hs⟩ := laid_ints (Laid.top hval hd (by kernel_rfl))
  obtain rfl : v = v' := by simpa using hv
  exact ⟨l, hs⟩
end
end Go.Proofs.Ytcbbdnaelimpfaa
