/- The document's store: its files; one is found; a step. The document's store: a file is created. The document's store: a file is put back; noughts; pending; flushed. The document's store: flushed. -/
import Derived.Test.YtdmcaaojapcbcaaSto25
set_option linter.unusedSimpArgs false
set_option linter.unusedVariables false
namespace Go.Vc
open Go
section
variable {P : Program} {h : Heap}
theorem OwnG.set {e s n c i : Nat} {a : Addr} {vs : List Value} {u : Value} (o : OwnG e s h (.slice (some a) n c) vs) (hi : i < vs.length) : OwnG e s (hset h (Go.Vc.elt a i) u) (.slice (some a) n c) (vs.set i u) := by
  rcases o with ⟨a, hv, rfl⟩ | ⟨b', o', n', c', pre, rest, hv, h1, h2, h3, h4, h5⟩
  · cases hi
  · cases hv
    subst h3
    refine .inr ⟨b', pre.length, n, c', pre, rest, rfl, by rw [List.length_set]; exact h1, h2, rfl, ?_, by simpa using h5⟩
    rw [elt_mk]
    refine (obj_set h4).trans ?_
    congr 2
    simp only [List.setIfInBounds_toArray]
    congr 1
    rw [List.append_assoc, List.append_assoc, List.set_append_right _ _ (by omega), List.set_append_left _ _ (by omega)]
    congr 3; omega
end
end Go.Vc
namespace Go.Proofs.Ytdmcaaojapcbcaa
open Go.Vc
variable {K : Value → Heap → Prop} {h : Heap}

def rsT : Nat := 92
def rfT : Nat := 99
def rpT : Nat := 145
/-- A file of the document's store, and where its pieces lie. -/
structure Rf where
  f : Fl
  pv : Value
def rfV (x : Rf) : List Value := [str x.f.name, str x.f.last, x.pv]
def rpV (p : Pc) : List Value := [.int .i64 (p.at_ : Nat), str p.b]
structure Rs where
  X : List Rf
  steps : Nat
  sv : Value
def Rs.foot (r : Rs) (p b : Nat) : Prop := b = p ∨ blkG r.sv = some b
structure RsAt (h : Heap) (p : Nat) (r : Rs) : Prop where
  cells : h[p]? = some (.cells #[r.sv, .slice none 0 0, .int .i64 r.steps] rsT)
  fs : OwnG rfT 3 h r.sv (r.X.flatMap rfV)
  ps : ∀ x ∈ r.X, OwnG rpT 2 h x.pv (x.f.ps.flatMap rpV)
  ok : ∀ x ∈ r.X, x.f.ok
  names : ∀ x ∈ r.X, okName x.f.name
  few : r.X.length ≤ 256
  stp : r.steps < 1000000
  pfew : ∀ x ∈ r.X, x.f.ps.length ≤ r.steps * 1000000
  sort : r.X.Pairwise fun x y => Op.bytesLess x.f.name y.f.name = true
theorem RsAt.pne {p : Nat} {r : Rs} (a : RsAt h p r) {x : Rf} (hx : x ∈ r.X) {b : Nat} (hb : blkG x.pv = some b) : ¬ r.foot p b := by
  rintro (e | e)
  · exact (a.ps x hx).ne hb (e ▸ a.cells) (by decide) rfl
  · obtain ⟨arr, ha⟩ := a.fs.tag e
    exact (a.ps x hx).ne hb ha (by decide) rfl
theorem RsAt.svne {p : Nat} {r : Rs} (a : RsAt h p r) {b : Nat} (hb : blkG r.sv = some b) : b ≠ p := a.fs.ne hb a.cells (by decide)
theorem RsAt.mod {S : Nat → Prop} {h' : Heap} {p : Nat} {r : Rs} (a : RsAt h p r) (m : Mod S h h') (h1 : ∀ b, r.foot p b → ¬ S b) (h2 : ∀ x ∈ r.X, ∀ b, blkG x.pv = some b → ¬ S b) : RsAt h' p r :=
  ⟨(m.block _ (get_some_lt a.cells) (h1 _ (.inl rfl))).trans a.cells, a.fs.mod m (fun b hb => h1 b (.inr hb)), fun x hx => (a.ps x hx).mod m (h2 x hx), a.ok, a.names, a.few, a.stp, a.pfew, a.sort⟩
theorem RsAt.ext {h' : Heap} {p : Nat} {r : Rs} (a : RsAt h p r) (e : Ext h h') : RsAt h' p r := a.mod (S := fun _ => False) (.of_ext e) (fun _ _ x => x) (fun _ _ _ _ x => x)
theorem RsAt.lt {p : Nat} {r : Rs} (a : RsAt h p r) {b : Nat} (hb : r.foot p b) : b < h.size := by
  rcases hb with rfl | hb
  · exact get_some_lt a.cells
  · exact a.fs.lt hb
theorem RsAt.plt {p : Nat} {r : Rs} (a : RsAt h p r) {x : Rf} (hx : x ∈ r.X) {b : Nat} (hb : blkG x.pv = some b) : b < h.size := (a.ps x hx).lt hb
theorem rfV_len (l : List Rf) : (l.flatMap rfV).length = l.length * 3 := by
  induction l with | nil => rfl | cons f l ih => rw [List.flatMap_cons, List.length_append, ih]; simp [rfV]; omega
theorem rpV_len (l : List Pc) : (l.flatMap rpV).length = l.length * 2 := by
  induction l with | nil => rfl | cons f l ih => rw [List.flatMap_cons, List.length_append, ih]; simp [rpV]; omega
theorem rfV_get : ∀ (l : List Rf) (i : Nat) (hi : i < l.length), (l.flatMap rfV)[i * 3]? = some (str l[i].f.name) ∧ (l.flatMap rfV)[i * 3 + 1]? = some (str l[i].f.last) ∧ (l.flatMap rfV)[i * 3 + 2]? = some l[i].pv
  | x :: l, 0, _ => by simp [rfV]
  | x :: l, i + 1, hi => by
    have := rfV_get l i (by simpa using hi)
    rw [show (i + 1) * 3 = (rfV x).length + i * 3 by simp [rfV]; omega, List.flatMap_cons]
    refine ⟨?_, ?_, ?_⟩
    · rw [List.getElem?_append_right (by omega), Nat.add_sub_cancel_left]; exact this.1
    · rw [List.getElem?_append_right (by omega), show (rfV x).length + i * 3 + 1 - (rfV x).length = i * 3 + 1 by omega]; exact this.2.1
    · rw [List.getElem?_append_right (by omega), show (rfV x).length + i * 3 + 2 - (rfV x).length = i * 3 + 2 by omega]; exact this.2.2
theorem rpV_get : ∀ (l : List Pc) (i : Nat) (hi : i < l.length), (l.flatMap rpV)[i * 2]? = some (.int .i64 (l[i].at_ : Nat)) ∧ (l.flatMap rpV)[i * 2 + 1]? = some (str l[i].b)
  | x :: l, 0, _ => by simp [rpV]
  | x :: l, i + 1, hi => by
    have := rpV_get l i (by simpa using hi)
    rw [show (i + 1) * 2 = (rpV x).length + i * 2 by simp [rpV]; omega, List.flatMap_cons]
    refine ⟨?_, ?_⟩
    · rw [List.getElem?_append_right (by omega), Nat.add_sub_cancel_left]; exact this.1
    · rw [List.getElem?_append_right (by omega), show (rpV x).length + i * 2 + 1 - (rpV x).length = i * 2 + 1 by omega]; exact this.2
theorem RsAt.form {p : Nat} {r : Rs} (a : RsAt h p r) : ∃ s c, r.sv = .slice s r.X.length c ∧ r.X.length ≤ c := by
  obtain ⟨fa, fn, fc, hfv, hfl, hfc, -⟩ := a.fs.form
  rw [rfV_len] at hfl
  obtain rfl : fn = r.X.length := by omega
  exact ⟨fa, fc, hfv, hfc⟩
/-- The cells of a file. -/
theorem RsAt.cell {p : Nat} {r : Rs} (a : RsAt h p r) {i : Nat} (hi : i < r.X.length) : ∃ ad c, r.sv = .slice (some ad) r.X.length c ∧ r.X.length ≤ c ∧ hcell h (elt ad (i * 3)) = some (str r.X[i].f.name) ∧ hcell h (elt ad (i * 3 + 1)) = some (str r.X[i].f.last) ∧ hcell h (elt ad (i * 3 + 2)) = some r.X[i].pv ∧
    hfrozen h (elt ad (i * 3)) = false ∧ hfrozen h (elt ad (i * 3 + 1)) = false ∧ hfrozen h (elt ad (i * 3 + 2)) = false := by
  obtain ⟨fa, fn, fc, hfv, hfl, hfc, hne⟩ := a.fs.form
  have hl := rfV_len r.X
  rw [hl] at hfl
  obtain rfl : fn = r.X.length := by omega
  obtain ⟨b, o, rfl⟩ := hne (fun e => by rw [e] at hl; simp at hl; omega)
  have o1 := a.fs
  rw [hfv] at o1
  have g := rfV_get r.X i hi
  have c0 := o1.cell (i := i * 3) (by omega)
  have c1 := o1.cell (i := i * 3 + 1) (by omega)
  have c2 := o1.cell (i := i * 3 + 2) (by omega)
  refine ⟨_, fc, hfv, hfc, c0.1.trans ?_, c1.1.trans ?_, c2.1.trans ?_, c0.2, c1.2, c2.2⟩
  · rw [← g.1, List.getElem?_eq_getElem]
  · rw [← g.2.1, List.getElem?_eq_getElem]
  · rw [← g.2.2, List.getElem?_eq_getElem]

/-- The store has changed; nothing but its own blocks. -/
structure RUpd (h h' : Heap) (p : Nat) (r r' : Rs) : Prop where
  st : RsAt h' p r'
  mod : Mod (r.foot p) h h'
  foot : ∀ b, r'.foot p b → r.foot p b ∨ h.size ≤ b
theorem RUpd.refl {p : Nat} {r : Rs} (a : RsAt h p r) : RUpd h h p r r := ⟨a, .refl _ _, fun _ h => .inl h⟩
theorem RUpd.trans {h1 h2 : Heap} {p : Nat} {x y z : Rs} (u : RUpd h h1 p x y) (v : RUpd h1 h2 p y z) : RUpd h h2 p x z := by
  have hs := u.mod.size
  refine ⟨v.st, u.mod.trans v.mod (fun b hb hy => (u.foot b hy).resolve_right (by omega)), fun b hb => ?_⟩
  rcases v.foot b hb with h3 | h3
  · exact u.foot b h3
  · exact .inr (by omega)

theorem Named_c {l : List UInt8} (hl : l.length < 9223372036854775808) (H : K (.bool (decide (okName l))) h) : CallsH Try.prog 95 #[str l] h K ⟨⟩ := by
  refine n95_calls ?_
  unfold n95
  by_cases h0 : l.length < 1
  · have : ¬ okName l := fun e => by have := e.1; omega
    simp (disch := omega)
    simpa [this] using H
  by_cases h1 : 64 < l.length
  · have : ¬ okName l := fun e => by have := e.2.1; omega
    simp (disch := omega)
    simpa [this] using H
  simp (disch := omega)
  refine loopX1 (α := Nat) (fun i => .int .i64 i) (fun i g => g = h ∧ i ≤ l.length ∧ ∀ j (hj : j < l.length), j < i → l[j] ≠ 0) (fun i => l.length - i) 0 rfl ⟨rfl, Nat.zero_le _, fun j _ hj => by omega⟩ ?_
  rintro i g ⟨rfl, hi, hz⟩ X hX
  try dsimp only at hi hX ⊢
  by_cases hil : i < l.length
  · by_cases hb : l[i].toNat = 0
    · have hb' : l[i] = 0 := UInt8.toNat_inj.1 hb
      have : ¬ okName l := fun e => e.2.2 (hb' ▸ List.getElem_mem hil)
      simp (disch := omega) [hb]
      simpa [this] using H
    · simp (disch := omega) [hb]
      refine hX (i + 1) _ _ (by simp) ⟨rfl, hil, fun j hj hji => ?_⟩ (by omega)
      by_cases hji' : j = i
      · subst hji'; exact fun e => hb (by rw [e]; rfl)
      · exact hz j hj (by omega)
  · have : okName l := ⟨by omega, by omega, fun e => by
      obtain ⟨j, hj, e⟩ := List.mem_iff_getElem.1 e
      exact hz j hj (by omega) e⟩
    simp (disch := omega)
    simpa [this] using H
theorem RsAt.uniq {p : Nat} {r : Rs} (a : RsAt h p r) {i j : Nat} (hi : i < r.X.length) (hj : j < r.X.length) (e : r.X[i].f.name = r.X[j].f.name) : i = j := by
  have s := List.pairwise_iff_getElem.1 a.sort
  rcases Nat.lt_trichotomy i j with h9 | h9 | h9
  · have := s i j hi hj h9
    rw [e, bl_irr] at this; cases this
  · exact h9
  · have := s j i hj hi h9
    rw [e, bl_irr] at this; cases this
/-- A file is looked for. -/
theorem rfind_c {p : Nat} {r : Rs} {l : List UInt8} (a : RsAt h p r) (hl : l.length < 9223372036854775808) (H2 : ¬ okName l → K (.tuple #[.int .i64 0, .int .i64 2]) h) (H7 : okName l → (∀ x ∈ r.X, x.f.name ≠ l) → K (.tuple #[.int .i64 0, .int .i64 7]) h)
    (H0 : ∀ A x B, okName l → r.X = A ++ x :: B → x.f.name = l → K (.tuple #[.int .i64 A.length, .int .i64 0]) h) : CallsH Try.prog 82 #[ptrV p, str l] h K ⟨⟩ := by
  refine n82_calls ?_
  unfold n82 ptrV
  refine Named_c hl ?_
  have c0 := cellOf (i := 0) a.cells rfl
  obtain ⟨sa, sc, hsv, hsc⟩ := a.form
  have hfew := a.few
  by_cases ho : okName l
  · simp (disch := omega) [ho]
    have c0' : hcell h ⟨p, 0, none⟩ = some (.slice sa r.X.length sc) := hsv ▸ c0
    refine loopX1 (α := Nat) (fun i => .int .i64 i) (fun i g => h = g ∧ i ≤ r.X.length ∧ ∀ j (hj : j < r.X.length), j < i → r.X[j].f.name ≠ l) (fun i => r.X.length - i) 0 rfl ⟨rfl, Nat.zero_le _, fun j _ hj => by omega⟩ ?_
    rintro i g ⟨rfl, hi, hz⟩ X hX
    try dsimp only at hi hX ⊢
    by_cases hil : i < r.X.length
    · obtain ⟨ad, c, hv, -, r0, -⟩ := a.cell hil
      rw [hv] at hsv
      cases hsv
      by_cases hn : r.X[i].f.name = l
      · simp (disch := omega) [c0', r0, hn]
        have hsp : r.X = r.X.take i ++ r.X[i] :: r.X.drop (i + 1) := by rw [← List.drop_eq_getElem_cons hil, List.take_append_drop]
        have := H0 (r.X.take i) r.X[i] (r.X.drop (i + 1)) ho hsp hn
        rwa [List.length_take, Nat.min_eq_left (by omega)] at this
      · simp (disch := omega) [c0', r0, hn]
        refine hX (i + 1) _ _ (by simp) ⟨rfl, hil, fun j hj hji => ?_⟩ (by omega)
        by_cases hji' : j = i
        · subst hji'; exact hn
        · exact hz j hj (by omega)
    · simp (disch := omega) [c0']
      refine H7 ho fun x hx => ?_
      obtain ⟨j, hj, rfl⟩ := List.mem_iff_getElem.1 hx
      exact hz j hj (by omega)
  · simp (disch := omega) [ho]
    exact H2 ho
/-- A step (there are no fates). -/
theorem rstep_c {p : Nat} {r : Rs} (a : RsAt h p r) (hs : r.steps + 1 < 1000000) (H : ∀ h', RUpd h h' p r { r with steps := r.steps + 1 } → K (.tuple #[.int .i64 0, .int .i64 0]) h') : CallsH Try.prog 83 #[ptrV p] h K ⟨⟩ := by
  refine n83_calls ?_
  unfold n83 ptrV
  have c1 := cellOf (i := 1) a.cells rfl
  have c2 := cellOf (i := 2) a.cells rfl
  have f2 := frzOf (i := 2) a.cells
  simp (disch := omega) [c1, c2, f2]
  have m : Mod (· = p) h (hset h ⟨p, 2, none⟩ (.int .i64 ((r.steps : Int) + 1))) := Mod.set h ⟨p, 2, none⟩ _
  refine H _ ⟨⟨obj_set a.cells, a.fs.mod m (fun b hb e => a.svne hb e), fun x hx => (a.ps x hx).mod m (fun b hb e => a.pne hx hb (.inl e)), a.ok, a.names, a.few, hs, fun x hx => Nat.le_trans (a.pfew x hx) (Nat.mul_le_mul_right _ (Nat.le_succ _)), a.sort⟩, m.mono (fun b _ e => .inl e), fun b hb => .inl hb⟩
end Go.Proofs.Ytdmcaaojapcbcaa
set_option linter.unusedSimpArgs false
set_option linter.unusedVariables false
namespace Go.Proofs.Ytdmcaaojapcbcaa
open Go.Vc
variable {K : Value → Heap → Prop} {h : Heap}

theorem rfV_one {l : List Rf} (h1 : ∀ x ∈ l, one x.pv = true) : ∀ u ∈ l.flatMap rfV, one u = true := by
  intro u hu
  obtain ⟨x, hx, hu⟩ := List.mem_flatMap.1 hu
  simp [rfV] at hu
  rcases hu with rfl | rfl | rfl
  · rfl
  · rfl
  · exact h1 x hx
theorem rpV_one (l : List Pc) : ∀ u ∈ l.flatMap rpV, one u = true := by
  intro u hu
  obtain ⟨x, hx, hu⟩ := List.mem_flatMap.1 hu
  simp [rpV] at hu
  rcases hu with rfl | rfl <;> rfl
theorem RsAt.pvOne {p : Nat} {r : Rs} (a : RsAt h p r) : ∀ x ∈ r.X, one x.pv = true := fun x hx => by
  obtain ⟨fa, fn, fc, hfv, -⟩ := (a.ps x hx).form
  rw [hfv]; rfl
theorem rfV_take : ∀ (l : List Rf) (i : Nat), (l.flatMap rfV).take (i * 3) = (l.take i).flatMap rfV
  | [], i => by simp
  | x :: l, 0 => by simp
  | x :: l, i + 1 => by
    rw [show (i + 1) * 3 = (rfV x).length + i * 3 by simp [rfV]; omega, List.flatMap_cons, List.take_length_add_append, rfV_take l i, List.take_succ_cons, List.flatMap_cons]
theorem rfV_drop : ∀ (l : List Rf) (i : Nat), (l.flatMap rfV).drop (i * 3) = (l.drop i).flatMap rfV
  | [], i => by simp
  | x :: l, 0 => by simp
  | x :: l, i + 1 => by
    rw [show (i + 1) * 3 = (rfV x).length + i * 3 by simp [rfV]; omega, List.flatMap_cons, List.drop_length_add_append, rfV_drop l i, List.drop_succ_cons]

set_option maxHeartbeats 4000000 in
theorem rCreate_c {p : Nat} {r : Rs} {l : List UInt8} (a : RsAt h p r) (hl : l.length < 9223372036854775808) (hs : r.steps + 1 < 1000000)
    (H0 : ∀ e, (¬ okName l ∨ (∃ x ∈ r.X, x.f.name = l) ∨ 256 ≤ r.X.length) → K (.int .i64 e) h)
    (H1 : ∀ h' A B sv, okName l → (∀ x ∈ r.X, x.f.name ≠ l) → r.X.length < 256 → r.X = A ++ B → RUpd h h' p r ⟨A ++ ⟨⟨l, [], []⟩, .slice none 0 0⟩ :: B, r.steps + 1, sv⟩ → K (.int .i64 0) h') :
    CallsH Try.prog 41 #[ptrV p, str l] h K ⟨⟩ := by
  refine n41_calls ?_
  unfold n41
  refine rfind_c a hl (fun ho => ?_) (fun ho hn => ?_) (fun A x B ho hX hxn => ?_)
  · simp (disch := omega)
    exact H0 _ (.inl ho)
  · have c0 := cellOf (i := 0) a.cells rfl
    obtain ⟨sa, sc, hsv, hsc⟩ := a.form
    have hfew := a.few
    have c0' : hcell h ⟨p, 0, none⟩ = some (.slice sa r.X.length sc) := hsv ▸ c0
    by_cases hf : 256 ≤ r.X.length
    · simp (disch := omega) [ptrV, c0', hf]
      exact H0 _ (.inr (.inr hf))
    simp (disch := omega) [ptrV, c0']
    refine rstep_c a hs fun h2 u2 => ?_
    have a2 := u2.st
    have d0 : hcell h2 ⟨p, 0, none⟩ = some (.slice sa r.X.length sc) := hsv ▸ cellOf (i := 0) a2.cells rfl
    simp (disch := omega)
    have fin : ∀ (i : Nat), i ≤ r.X.length → (∀ j (hj : j < r.X.length), j < i → Op.bytesLess r.X[j].f.name l = true) → (∀ hi : i < r.X.length, Op.bytesLess r.X[i].f.name l = false) → ∀ h6 v, Ext h2 h6 → OwnG rfT 3 h6 v ((r.X.take i).flatMap rfV ++ [str l, str [], .slice none 0 0] ++ (r.X.drop i).flatMap rfV) → (∀ b, blkG v = some b → h2.size ≤ b) →
        K (.int .i64 0) (hset h6 ⟨p, 0, none⟩ v) := by
      intro i hi hz hge h6 v e6 o6 f6
      have hpl := get_some_lt a2.cells
      have a6 := a2.ext e6
      have m7 := Mod.set h6 ⟨p, 0, none⟩ v
      refine H1 _ (r.X.take i) (r.X.drop i) v ho hn (by omega) (List.take_append_drop _ _).symm ?_
      have zu := u2.mod.size
      have z6 := e6.size
      refine u2.trans ⟨⟨obj_set a6.cells, ?_, ?_, ?_, ?_, ?_, a2.stp, ?_, ?_⟩, ?_, ?_⟩
      · have := o6.mod m7 (fun b hb e => by have := f6 b hb; have e' : b = p := e; omega)
        rw [List.flatMap_append, List.flatMap_cons]
        simpa [rfV] using this
      · intro x hx
        rcases List.mem_append.1 hx with hx | hx
        · exact (a6.ps x (List.mem_of_mem_take hx)).mod m7 (fun b hb e => a6.pne (List.mem_of_mem_take hx) hb (.inl e))
        · rcases List.mem_cons.1 hx with rfl | hx
          · exact .nil
          · exact (a6.ps x (List.mem_of_mem_drop hx)).mod m7 (fun b hb e => a6.pne (List.mem_of_mem_drop hx) hb (.inl e))
      · intro x hx
        rcases List.mem_append.1 hx with hx | hx
        · exact a6.ok x (List.mem_of_mem_take hx)
        · rcases List.mem_cons.1 hx with rfl | hx
          · exact ⟨by show 0 ≤ _; decide, fun q hq => by cases hq⟩
          · exact a6.ok x (List.mem_of_mem_drop hx)
      · intro x hx
        rcases List.mem_append.1 hx with hx | hx
        · exact a6.names x (List.mem_of_mem_take hx)
        · rcases List.mem_cons.1 hx with rfl | hx
          · exact ho
          · exact a6.names x (List.mem_of_mem_drop hx)
      · show (_ ++ _ :: _).length ≤ _
        simp only [List.length_append, List.length_cons, List.length_take, List.length_drop]
        omega
      · intro x hx
        rcases List.mem_append.1 hx with hx | hx
        · exact a6.pfew x (List.mem_of_mem_take hx)
        · rcases List.mem_cons.1 hx with rfl | hx
          · exact Nat.zero_le _
          · exact a6.pfew x (List.mem_of_mem_drop hx)
      · have hs9 := a2.sort
        have hs8 : r.X.Pairwise fun x y => Op.bytesLess x.f.name y.f.name = true := hs9
        rw [← List.take_append_drop i r.X, List.pairwise_append] at hs8
        refine List.pairwise_append.2 ⟨hs8.1, List.pairwise_cons.2 ⟨fun y hy => ?_, hs8.2.1⟩, fun x hx y hy => ?_⟩
        · obtain ⟨j, hj, rfl⟩ := List.mem_iff_getElem.1 hy
          rw [List.length_drop] at hj
          rw [List.getElem_drop]
          show Op.bytesLess l _ = true
          have hi9 : i < r.X.length := by omega
          have h1 := hge hi9
          have key : Op.bytesLess l r.X[i].f.name = true := by
            cases hb : Op.bytesLess l r.X[i].f.name with
            | true => rfl
            | false => exact absurd (bl_tri _ _ h1 hb) (hn _ (List.getElem_mem hi9))
          rcases Nat.eq_zero_or_pos j with h0 | h0
          · subst h0; exact key
          · exact bl_trans _ _ _ key (List.pairwise_iff_getElem.1 hs9 i (i + j) hi9 (by show _ < r.X.length; omega) (by omega))
        · rcases List.mem_cons.1 hy with rfl | hy
          · obtain ⟨j, hj, rfl⟩ := List.mem_iff_getElem.1 hx
            rw [List.length_take] at hj
            rw [List.getElem_take]
            exact hz j (by omega) (by omega)
          · exact hs8.2.2 x hx y hy
      · exact Mod.trans (Mod.of_ext e6) m7 (fun b _ e => .inl e)
      · rintro b (e | e)
        · exact .inl (.inl e)
        · exact .inr (f6 b e)
    refine loopX1 (α := Nat) (fun i => .int .i64 i) (fun i g => h2 = g ∧ i ≤ r.X.length ∧ ∀ j (hj : j < r.X.length), j < i → Op.bytesLess r.X[j].f.name l = true) (fun i => r.X.length - i) 0 rfl ⟨rfl, Nat.zero_le _, fun j _ hj => by omega⟩ ?_
    rintro i g ⟨rfl, hi, hz⟩ X hX
    try dsimp only at hi hX ⊢
    by_cases hil : i < r.X.length
    · obtain ⟨ad, c, hv, -, r0, -⟩ := a2.cell hil
      have hv' : r.sv = .slice (some ad) r.X.length c := hv
      rw [hv'] at hsv
      obtain ⟨rfl, rfl⟩ : some ad = sa ∧ c = sc := by cases hsv; exact ⟨rfl, rfl⟩
      have hsv := hv'
      cases hb : Op.bytesLess r.X[i].f.name l with
      | true =>
        simp (disch := omega) [d0, r0, Hp_lssStr, hb, ptrV]
        refine hX (i + 1) _ _ (by simp) ⟨rfl, hil, fun j hj hji => ?_⟩ (by omega)
        by_cases hji' : j = i
        · subst hji'; exact hb
        · exact hz j hj (by omega)
      | false =>
        simp (disch := omega) [d0, r0, Hp_lssStr, hb, ptrV, Hp_slgNH (P := Try.prog) (t := 90) (s := 3) (by kernel_rfl)]
        have o0 := a2.fs
        rw [show (Rs.sv { r with steps := r.steps + 1 }) = .slice (some ad) r.X.length c from hsv] at o0
        have src1 := (o0.cut (hi := i) (mx := c) (by omega) (Nat.le_refl _) hi).src
        rw [rfV_take] at src1
        have hlt1 : (r.X.take i).length = i := by rw [List.length_take]; omega
        have one1 := a2.pvOne
        refine Hp_appendG (e := rfT) (s := 3) (by_ := 56) (n := 0) (k := i) (by kernel_rfl) (by kernel_rfl) OwnG.nil rfl (by omega) src1 (rfV_one fun x hx => one1 x (List.mem_of_mem_take hx)) (by omega) (by omega) fun v1 h3 o3 m3 f3 _ => ?_
        have e3 : Ext h2 h3 := m3.ext_from (.refl _) (fun b hb e => by cases e)
        have f3' : ∀ b, blkG v1 = some b → h2.size ≤ b := fun b hb => (f3 b hb).elim (fun e => by cases e) id
        rw [List.nil_append] at o3
        obtain ⟨va, vn, vc, rfl, hvn, -, -⟩ := o3.form
        rw [rfV_len, hlt1] at hvn
        obtain rfl : vn = i := by omega
        simp (disch := omega)
        have e4 : Ext h3 (h3.push (.cells #[str l, str [], .slice none 0 0] rfT)) := (by repeat' (first | (with_reducible exact Ext.refl _) | (with_reducible assumption) | (with_reducible refine push_ext ?_) | (with_reducible refine hset_ext ?_ ?_) | (with_reducible refine Ext.trans ?_ (by assumption)) | omega | (simp; done) | (simp; omega) | (refine Ext.size ?_) | (refine Nat.le_succ_of_le (Ext.size ?_))))
        refine Hp_appendG (e := rfT) (s := 3) (by_ := 56) (n := vn) (k := 1) (news := [str l, str [], .slice none 0 0]) (by kernel_rfl) (by kernel_rfl) (o3.ext e4) (by rw [rfV_len, hlt1]) (by omega) (Src_new (vs := [str l, str [], .slice none 0 0]) rfl) (by simp [one, str]) (by omega) (by omega) fun v2 h5 o5 m5 f5 _ => ?_
        have z3 := e3.size
        have z4 := e4.size
        have z5 := m5.size
        have e5 : Ext h2 h5 := m5.ext_from (e3.trans e4) (fun b hb e => by have := f3' b e; omega)
        have f5' : ∀ b, blkG v2 = some b → h2.size ≤ b := fun b hb => (f5 b hb).elim (f3' b) (fun e => by have e' := Nat.le_trans z4 e; omega)
        obtain ⟨wa, wn, wc, rfl, hwn, -, -⟩ := o5.form
        rw [List.length_append, rfV_len, hlt1] at hwn
        simp at hwn
        obtain rfl : wn = vn + 1 := by omega
        have k0 : hcell h5 ⟨p, 0, none⟩ = some (.slice (some ad) r.X.length c) := hsv ▸ cellOf (i := 0) (a2.ext e5).cells rfl
        simp (disch := omega) [k0, Hp_slgLN (P := Try.prog) (t := 90) (s := 3) (by kernel_rfl)]
        have src2 := ((o0.ext e5).dropO (lo := vn) hi).src
        rw [rfV_drop] at src2
        rw [show r.X.length - vn = (r.X.length - vn) by omega] at src2
        refine Hp_appendG (e := rfT) (s := 3) (by_ := 56) (n := vn + 1) (k := (r.X.length - vn)) (by kernel_rfl) (by kernel_rfl) o5 (by rw [List.length_append, rfV_len, hlt1]; simp; omega) (by omega) src2 (rfV_one fun x hx => one1 x (List.mem_of_mem_drop hx)) (by omega) (by omega) fun v3 h6 o6 m6 f6 _ => ?_
        have z6 := m6.size
        have e6 : Ext h2 h6 := m6.ext_from e5 (fun b hb e => by have := f5' b e; omega)
        have f6' : ∀ b, blkG v3 = some b → h2.size ≤ b := fun b hb => (f6 b hb).elim (f5' b) (fun e => by have := e5.size; omega)
        obtain ⟨xa, xn, xc, rfl, -, -, -⟩ := o6.form
        have a6 := a2.ext e6
        have k6 := cellOf (i := 0) a6.cells rfl
        have fr6 := frzOf (i := 0) a6.cells
        simp (disch := omega) [k6, fr6]
        refine fin vn hi hz ?_ _ (.slice xa xn xc) e6 ?_ f6'
        · exact fun _ => hb
        · exact o6
    · simp (disch := omega) [d0, ptrV, Hp_slgNH (P := Try.prog) (t := 90) (s := 3) (by kernel_rfl)]
      have o0 := a2.fs
      rw [show (Rs.sv { r with steps := r.steps + 1 }) = .slice sa r.X.length sc from hsv] at o0
      have src1 := (o0.cut (hi := i) (mx := sc) (by omega) (Nat.le_refl _) hi).src
      rw [rfV_take] at src1
      have hlt1 : (r.X.take i).length = i := by rw [List.length_take]; omega
      have one1 := a2.pvOne
      refine Hp_appendG (e := rfT) (s := 3) (by_ := 56) (n := 0) (k := i) (by kernel_rfl) (by kernel_rfl) OwnG.nil rfl (by omega) src1 (rfV_one fun x hx => one1 x (List.mem_of_mem_take hx)) (by omega) (by omega) fun v1 h3 o3 m3 f3 _ => ?_
      have e3 : Ext h2 h3 := m3.ext_from (.refl _) (fun b hb e => by cases e)
      have f3' : ∀ b, blkG v1 = some b → h2.size ≤ b := fun b hb => (f3 b hb).elim (fun e => by cases e) id
      rw [List.nil_append] at o3
      obtain ⟨va, vn, vc, rfl, hvn, -, -⟩ := o3.form
      rw [rfV_len, hlt1] at hvn
      obtain rfl : vn = i := by omega
      simp (disch := omega)
      have e4 : Ext h3 (h3.push (.cells #[str l, str [], .slice none 0 0] rfT)) := (by repeat' (first | (with_reducible exact Ext.refl _) | (with_reducible assumption) | (with_reducible refine push_ext ?_) | (with_reducible refine hset_ext ?_ ?_) | (with_reducible refine Ext.trans ?_ (by assumption)) | omega | (simp; done) | (simp; omega) | (refine Ext.size ?_) | (refine Nat.le_succ_of_le (Ext.size ?_))))
      refine Hp_appendG (e := rfT) (s := 3) (by_ := 56) (n := vn) (k := 1) (news := [str l, str [], .slice none 0 0]) (by kernel_rfl) (by kernel_rfl) (o3.ext e4) (by rw [rfV_len, hlt1]) (by omega) (Src_new (vs := [str l, str [], .slice none 0 0]) rfl) (by simp [one, str]) (by omega) (by omega) fun v2 h5 o5 m5 f5 _ => ?_
      have z3 := e3.size
      have z4 := e4.size
      have z5 := m5.size
      have e5 : Ext h2 h5 := m5.ext_from (e3.trans e4) (fun b hb e => by have := f3' b e; omega)
      have f5' : ∀ b, blkG v2 = some b → h2.size ≤ b := fun b hb => (f5 b hb).elim (f3' b) (fun e => by have e' := Nat.le_trans z4 e; omega)
      obtain ⟨wa, wn, wc, rfl, hwn, -, -⟩ := o5.form
      rw [List.length_append, rfV_len, hlt1] at hwn
      simp at hwn
      obtain rfl : wn = vn + 1 := by omega
      have k0 : hcell h5 ⟨p, 0, none⟩ = some (.slice sa r.X.length sc) := hsv ▸ cellOf (i := 0) (a2.ext e5).cells rfl
      simp (disch := omega) [k0, Hp_slgLN (P := Try.prog) (t := 90) (s := 3) (by kernel_rfl)]
      have src2 := ((o0.ext e5).dropO (lo := vn) hi).src
      rw [rfV_drop] at src2
      rw [show r.X.length - vn = 0 by omega] at src2
      refine Hp_appendG (e := rfT) (s := 3) (by_ := 56) (n := vn + 1) (k := 0) (by kernel_rfl) (by kernel_rfl) o5 (by rw [List.length_append, rfV_len, hlt1]; simp; omega) (by omega) src2 (rfV_one fun x hx => one1 x (List.mem_of_mem_drop hx)) (by omega) (by omega) fun v3 h6 o6 m6 f6 _ => ?_
      have z6 := m6.size
      have e6 : Ext h2 h6 := m6.ext_from e5 (fun b hb e => by have := f5' b e; omega)
      have f6' : ∀ b, blkG v3 = some b → h2.size ≤ b := fun b hb => (f6 b hb).elim (f5' b) (fun e => by have := e5.size; omega)
      obtain ⟨xa, xn, xc, rfl, -, -, -⟩ := o6.form
      have a6 := a2.ext e6
      have k6 := cellOf (i := 0) a6.cells rfl
      have fr6 := frzOf (i := 0) a6.cells
      simp (disch := omega) [k6, fr6]
      refine fin vn hi hz ?_ _ (.slice xa xn xc) e6 ?_ f6'
      · exact fun e => absurd e hil
      · exact o6
  · simp (disch := omega)
    exact H0 _ (.inr (.inl ⟨x, by rw [hX]; simp, hxn⟩))
end Go.Proofs.Ytdmcaaojapcbcaa
set_option linter.unusedSimpArgs false
set_option linter.unusedVariables false
namespace Go.Proofs.Ytdmcaaojapcbcaa
open Go.Vc
variable {K : Value → Heap → Prop} {h : Heap}

theorem rfV_set (A B : List Rf) (x x' : Rf) : (((((A ++ x :: B).flatMap rfV).set (A.length * 3) (str x'.f.name)).set (A.length * 3 + 1) (str x'.f.last)).set (A.length * 3 + 2) x'.pv) = (A ++ x' :: B).flatMap rfV := by
  rw [List.flatMap_append, List.flatMap_append, List.flatMap_cons, List.flatMap_cons]
  have hl := rfV_len A
  rw [List.set_append_right _ _ (by omega), List.set_append_right _ _ (by omega), List.set_append_right _ _ (by omega)]
  rw [hl, Nat.sub_self, Nat.add_sub_cancel_left, Nat.add_sub_cancel_left]
  rfl
theorem modElt {S : Nat → Prop} {g : Heap} {ad : Addr} {i : Nat} {v : Value} (m : Mod S h g) (hb : S ad.block) : Mod S h (hset g (elt ad i) v) := m.trans (Mod.set g (elt ad i) v) (fun b _ e => by
  have e' : b = ad.block := e.trans (elt_blk ad i)
  rw [e']; exact hb)
theorem RsAt.put3 {p : Nat} {r : Rs} {A B : List Rf} {x x' : Rf} {ad : Addr} {c : Nat} (a : RsAt h p r) (hX : r.X = A ++ x :: B) (hsv : r.sv = .slice (some ad) r.X.length c) (hc : r.X.length ≤ c) (hn : x'.f.name = x.f.name) (ok : x'.f.ok) (hf : x'.f.ps.length ≤ r.steps * 1000000) (hp : OwnG rpT 2 h x'.pv (x'.f.ps.flatMap rpV)) :
    RUpd h (hset (hset (hset h (elt ad (A.length * 3)) (str x'.f.name)) (elt ad (A.length * 3 + 1)) (str x'.f.last)) (elt ad (A.length * 3 + 2)) x'.pv) p r { r with X := A ++ x' :: B } := by
  have hbk : blkG r.sv = some ad.block := by
    rw [hsv]
    have : r.X.length ≠ 0 := by rw [hX]; simp
    cases c with | zero => omega | succ c => rfl
  have m : Mod (fun b => blkG r.sv = some b) h (hset (hset (hset h (elt ad (A.length * 3)) (str x'.f.name)) (elt ad (A.length * 3 + 1)) (str x'.f.last)) (elt ad (A.length * 3 + 2)) x'.pv) :=
    modElt (modElt (modElt (Mod.refl _ _) hbk) hbk) hbk
  have hl := rfV_len r.X
  have hXl : r.X.length = A.length + 1 + B.length := by rw [hX]; simp; omega
  have hnm : (A ++ x' :: B).map (·.f.name) = r.X.map (·.f.name) := by rw [hX]; simp [hn]
  have hpx : ∀ b, blkG x'.pv = some b → ¬ blkG r.sv = some b := fun b hb e => by
    obtain ⟨arr, ha⟩ := a.fs.tag e
    exact hp.ne hb ha (by decide) rfl
  refine ⟨⟨(m.block p (get_some_lt a.cells) (fun e => a.svne e rfl)).trans a.cells, ?_, fun y hy => ?_, fun y hy => ?_, fun y hy => ?_, ?_, a.stp, fun y hy => ?_, ?_⟩, m.mono (fun b _ e => .inr e), fun b hb => .inl hb⟩
  · have o0 := a.fs
    rw [hsv] at o0
    have o1 := o0.set (i := A.length * 3) (u := str x'.f.name) (by omega)
    have o2 := o1.set (i := A.length * 3 + 1) (u := str x'.f.last) (by rw [List.length_set]; omega)
    have o3 := o2.set (i := A.length * 3 + 2) (u := x'.pv) (by rw [List.length_set, List.length_set]; omega)
    show OwnG rfT 3 _ r.sv _
    rw [hsv, ← rfV_set A B x x', ← hX]
    exact o3
  · rcases List.mem_append.1 hy with hy | hy
    · exact (a.ps y (by rw [hX]; exact List.mem_append_left _ hy)).mod m (fun b hb e => a.pne (x := y) (by rw [hX]; exact List.mem_append_left _ hy) hb (.inr e))
    · rcases List.mem_cons.1 hy with rfl | hy
      · exact hp.mod m hpx
      · exact (a.ps y (by rw [hX]; simp [hy])).mod m (fun b hb e => a.pne (x := y) (by rw [hX]; simp [hy]) hb (.inr e))
  · rcases List.mem_append.1 hy with hy | hy
    · exact a.ok y (by rw [hX]; exact List.mem_append_left _ hy)
    · rcases List.mem_cons.1 hy with rfl | hy
      · exact ok
      · exact a.ok y (by rw [hX]; simp [hy])
  · have : y.f.name ∈ r.X.map (·.f.name) := hnm ▸ List.mem_map_of_mem hy
    obtain ⟨z, hz, e⟩ := List.mem_map.1 this
    rw [← e]; exact a.names z hz
  · show (A ++ x' :: B).length ≤ _
    have := a.few
    simp at hXl ⊢; omega
  · rcases List.mem_append.1 hy with hy | hy
    · exact a.pfew y (by rw [hX]; exact List.mem_append_left _ hy)
    · rcases List.mem_cons.1 hy with rfl | hy
      · exact hf
      · exact a.pfew y (by rw [hX]; simp [hy])
  · have s := a.sort
    have h1 : (r.X.map (·.f.name)).Pairwise fun x y => Op.bytesLess x y = true := List.pairwise_map.2 s
    rw [← hnm] at h1
    exact List.pairwise_map.1 h1

theorem RsAt.cellB {p : Nat} {r : Rs} (a : RsAt h p r) {i : Nat} (hi : i < r.X.length) : ∃ b o c, r.sv = .slice (some ⟨b, o, none⟩) r.X.length c ∧ r.X.length ≤ c ∧ b < h.size ∧ hcell h ⟨b, o + i * 3, none⟩ = some (str r.X[i].f.name) ∧ hcell h ⟨b, o + i * 3 + 1, none⟩ = some (str r.X[i].f.last) ∧ hcell h ⟨b, o + i * 3 + 2, none⟩ = some r.X[i].pv ∧
    hfrozen h ⟨b, o + i * 3, none⟩ = false ∧ hfrozen h ⟨b, o + i * 3 + 1, none⟩ = false ∧ hfrozen h ⟨b, o + i * 3 + 2, none⟩ = false := by
  obtain ⟨ad, c, hsv, hc, r0, r1, r2, g0, g1, g2⟩ := a.cell hi
  obtain ⟨fa, fn, fc, hfv, hfl, hfc, hne⟩ := a.fs.form
  have hl := rfV_len r.X
  obtain ⟨b, o, rfl⟩ := hne (fun e => by rw [e] at hl; simp at hl; omega)
  rw [hsv] at hfv
  cases hfv
  simp only [elt_mk] at r0 r1 r2 g0 g1 g2
  refine ⟨b, o, c, hsv, hc, a.lt (.inr ?_), r0, r1, r2, g0, g1, g2⟩
  rw [hsv]
  cases c with | zero => omega | succ c => rfl
theorem RsAt.put3B {p : Nat} {r : Rs} {A B : List Rf} {x x' : Rf} {b o : Nat} {c : Nat} (a : RsAt h p r) (hX : r.X = A ++ x :: B) (hsv : r.sv = .slice (some ⟨b, o, none⟩) r.X.length c) (hc : r.X.length ≤ c) (hn : x'.f.name = x.f.name) (ok : x'.f.ok) (hf : x'.f.ps.length ≤ r.steps * 1000000) (hp : OwnG rpT 2 h x'.pv (x'.f.ps.flatMap rpV)) :
    RUpd h (hset (hset (hset h ⟨b, o + A.length * 3, none⟩ (str x'.f.name)) ⟨b, o + A.length * 3 + 1, none⟩ (str x'.f.last)) ⟨b, o + A.length * 3 + 2, none⟩ x'.pv) p r { r with X := A ++ x' :: B } := by
  have := a.put3 hX hsv hc hn ok hf hp
  simp only [elt_mk] at this
  exact this

theorem noughts_c {n : Int} (h0 : -9223372036854775808 ≤ n) (h1 : n < 1000000000) (H : ∀ h', Ext h h' → K (str (zeros n.toNat)) h') : CallsH Try.prog 84 #[.int .i64 n] h K ⟨⟩ := by
  refine n84_calls ?_
  unfold n84
  simp (disch := omega)
  obtain ⟨k, hk⟩ : ∃ k : Nat, (if 0 < n then n else 0).toNat = k ∧ n.toNat = k := ⟨n.toNat, by split <;> omega, rfl⟩
  rw [hk.1]
  rw [hk.2] at H
  have e0 : Ext h (h.push (.cells (Array.replicate k (.int .u8 0)) bT)) := (by repeat' (first | (with_reducible exact Ext.refl _) | (with_reducible assumption) | (with_reducible refine push_ext ?_) | (with_reducible refine hset_ext ?_ ?_) | (with_reducible refine Ext.trans ?_ (by assumption)) | omega | (simp; done) | (simp; omega) | (refine Ext.size ?_) | (refine Nat.le_succ_of_le (Ext.size ?_))))
  have hB : Bytes (h.push (.cells (Array.replicate k (.int .u8 0)) bT)) (.slice (some ⟨h.size, 0, none⟩) k k) (zeros k) := by
    have hO := OwnS_new (h := h) (vs := (zeros k).map byteV) (e := bT) (s := 1) (n := k) (b := h.size) rfl (by simp [zeros])
    have he : ((zeros k).map byteV).toArray = Array.replicate k (.int .u8 0) := by
      unfold zeros
      rw [List.map_replicate, List.toArray_replicate]; rfl
    rw [he] at hO
    exact hO.bytes
  refine (Hp_bytesStr (e := bT) (by kernel_rfl) (by kernel_rfl) (by kernel_rfl) hB).2 ?_
  exact H _ e0
def Rs.pend (r : Rs) : Nat := (r.X.map fun x => x.f.ps.length).sum
theorem sum_map_le {α : Type} {f : α → Nat} {n : Nat} : ∀ {l : List α}, (∀ x ∈ l, f x ≤ n) → (l.map f).sum ≤ l.length * n
  | [], _ => Nat.zero_le _
  | x :: l, h => by
    have h1 := h x List.mem_cons_self
    have h2 := sum_map_le (f := f) fun y hy => h y (List.mem_cons_of_mem x hy)
    rw [List.map_cons, List.sum_cons, List.length_cons, Nat.succ_mul]
    omega
theorem rPending_c {p : Nat} {r : Rs} (a : RsAt h p r) (H : K (.int .i64 r.pend) h) : CallsH Try.prog 12 #[ptrV p] h K ⟨⟩ := by
  refine n12_calls ?_
  unfold n12 ptrV
  have c0 := cellOf (i := 0) a.cells rfl
  obtain ⟨sa, sc, hsv, hsc⟩ := a.form
  have hfew := a.few
  have hstp := a.stp
  have c0' : hcell h ⟨p, 0, none⟩ = some (.slice sa r.X.length sc) := hsv ▸ c0
  have hle : ∀ i, ((r.X.take i).map fun x => x.f.ps.length).sum ≤ 256 * 1000000000000 := fun i => by
    refine Nat.le_trans (sum_map_le (n := 1000000000000) fun x hx => ?_) ?_
    · have := a.pfew x (List.mem_of_mem_take hx); omega
    · have : (r.X.take i).length ≤ 256 := by rw [List.length_take]; omega
      exact Nat.mul_le_mul_right _ this
  refine loopX2 (α := Nat) (fun i => .int .i64 (((r.X.take i).map fun x => x.f.ps.length).sum : Nat)) (fun i => .int .i64 i) (fun i g => h = g ∧ i ≤ r.X.length) (fun i => r.X.length - i) 0 ⟨by simp, rfl⟩ ⟨rfl, Nat.zero_le _⟩ ?_
  rintro i g ⟨rfl, hi⟩ X hX
  try dsimp only at hi hX ⊢
  by_cases hil : i < r.X.length
  · obtain ⟨ad, c, hv, -, -, -, r2, -⟩ := a.cell hil
    rw [hv] at hsv
    cases hsv
    obtain ⟨pa, pn, pc, hpv, hpl, -, -⟩ := (a.ps _ (List.getElem_mem hil)).form
    rw [rpV_len] at hpl
    obtain rfl : pn = r.X[i].f.ps.length := by omega
    rw [hpv] at r2
    have h1 := hle i
    have h2 := a.pfew _ (List.getElem_mem hil)
    have hs : ((r.X.take (i + 1)).map fun x => x.f.ps.length).sum = ((r.X.take i).map fun x => x.f.ps.length).sum + r.X[i].f.ps.length := by
      rw [List.take_succ_eq_append_getElem hil, List.map_append, List.sum_append]; simp
    generalize hS : ((r.X.take i).map fun x => x.f.ps.length).sum = S at *
    simp (disch := omega) [c0', r2]
    refine hX (i + 1) _ _ _ ?_ (by simp) ⟨rfl, hil⟩ (by omega)
    rw [hs]; simp
  · obtain rfl : i = r.X.length := by omega
    simp (disch := omega) [c0']
    exact H
end Go.Proofs.Ytdmcaaojapcbcaa
set_option linter.unusedSimpArgs false
set_option linter.unusedVariables false
namespace Go.Proofs.Ytdmcaaojapcbcaa
open Go.Vc
variable {K : Value → Heap → Prop} {h : Heap}

theorem over_c {b x : List UInt8} {k : Nat} (hk : k + x.length ≤ b.length) (hb : b.length < 4611686018427387904) (H : K (str (over b k x)) h) : CallsH Try.prog 79 #[str b, .int .i64 k, str x] h K ⟨⟩ := by
  refine n79_calls ?_
  unfold n79
  rw [Hp_slcStrH (by kernel_rfl) (by omega) (by omega)]
  simp (disch := omega)
  rw [Hp_addStr (by rw [List.length_take]; omega)]
  simp (disch := omega)
  rw [Hp_addStr (by rw [List.length_append, List.length_take, List.length_drop]; omega)]
  exact H
theorem RUpd.of_ext {h' : Heap} {p : Nat} {r : Rs} (a : RsAt h p r) (e : Ext h h') : RUpd h h' p r r := ⟨a.ext e, .of_ext e, fun _ h => .inl h⟩
theorem rp_cell {ps : List Pc} {n c : Nat} {a : Option Addr} (o : OwnG rpT 2 h (.slice a n c) (ps.flatMap rpV)) {i : Nat} (hi : i < ps.length) :
    ∃ ad, a = some ad ∧ n = ps.length ∧ n ≤ c ∧ hcell h (elt ad (i * 2)) = some (.int .i64 (ps[i].at_ : Nat)) ∧ hcell h (elt ad (i * 2 + 1)) = some (str ps[i].b) := by
  obtain ⟨fa, fn, fc, hfv, hfl, hfc, hne⟩ := o.form
  cases hfv
  have hl := rpV_len ps
  obtain ⟨b, o', rfl⟩ := hne (fun e => by rw [e] at hl; simp at hl; omega)
  have g := rpV_get ps i hi
  have c0 := o.cell (i := i * 2) (by omega)
  have c1 := o.cell (i := i * 2 + 1) (by omega)
  refine ⟨_, rfl, by omega, hfc, c0.1.trans ?_, c1.1.trans ?_⟩
  · rw [← g.1, List.getElem?_eq_getElem]
  · rw [← g.2, List.getElem?_eq_getElem]
theorem rpV_drop : ∀ (l : List Pc) (i : Nat), (l.flatMap rpV).drop (i * 2) = (l.drop i).flatMap rpV
  | [], i => by simp
  | x :: l, 0 => by simp
  | x :: l, i + 1 => by
    rw [show (i + 1) * 2 = (rpV x).length + i * 2 by simp [rpV]; omega, List.flatMap_cons, List.drop_length_add_append, rpV_drop l i, List.drop_succ_cons]
set_option maxHeartbeats 4000000 in
theorem rFlush_c {p : Nat} {r : Rs} {l : List UInt8} (a : RsAt h p r) (hl : l.length < 9223372036854775808) (hs : r.steps + 1 < 1000000)
    (H0 : ∀ e, (¬ okName l ∨ ∀ x ∈ r.X, x.f.name ≠ l) → K (.int .i64 e) h)
    (H1 : ∀ h' A x B pv, okName l → r.X = A ++ x :: B → x.f.name = l → RUpd h h' p r ⟨A ++ ⟨x.f.flush x.f.ps.length, pv⟩ :: B, r.steps + 1, r.sv⟩ → K (.int .i64 0) h') :
    CallsH Try.prog 43 #[ptrV p, str l] h K ⟨⟩ := by
  refine n43_calls ?_
  unfold n43
  refine rfind_c a hl (fun ho => ?_) (fun ho hn => ?_) (fun A x B ho hX hxn => ?_)
  · simp (disch := omega)
    exact H0 _ (.inl ho)
  · simp (disch := omega)
    exact H0 _ (.inr hn)
  simp (disch := omega)
  refine rstep_c a hs fun h2 u2 => ?_
  have a2 := u2.st
  have hAl : A.length < r.X.length := by rw [hX]; simp
  have hfew := a.few
  obtain ⟨b, o, c, hsv, hsc, hbl, r0, r1, r2, g0, g1, g2⟩ := a2.cellB (i := A.length) hAl
  have hxi : r.X[A.length] = x := by simp [hX]
  have hx : x ∈ r.X := by rw [hX]; simp
  dsimp only at hsv hsc r0 r1 r2
  rw [hxi] at r0 r1 r2
  have d0 : hcell h2 ⟨p, 0, none⟩ = some (.slice (some ⟨b, o, none⟩) r.X.length c) := hsv ▸ cellOf (i := 0) a2.cells rfl
  have ox := a2.ps x hx
  obtain ⟨pa, pn, pc, hpv, hpl, hpc, hpne⟩ := ox.form
  rw [rpV_len] at hpl
  obtain rfl : pn = x.f.ps.length := by omega
  have hpf := a.pfew x hx
  have hst := a.stp
  have hok := a.ok x hx
  rw [hpv] at r2 ox
  unfold ptrV
  simp (disch := omega) [d0, elt_mk, r0, r1, r2]
  refine (⟨_, rfl⟩ : ∃ f, f = hset (hset (hset (h2.push (.cells #[str [], str [], .slice none 0 0] rfT)) ⟨h2.size, 0, none⟩ (str x.f.name)) ⟨h2.size, 1, none⟩ (str x.f.last)) ⟨h2.size, 2, none⟩ (.slice pa x.f.ps.length pc)).elim fun g0 eg0 => ?_
  have e0 : Ext h2 g0 := by rw [eg0]; exact (by repeat' (first | (with_reducible exact Ext.refl _) | (with_reducible assumption) | (with_reducible refine push_ext ?_) | (with_reducible refine hset_ext ?_ ?_) | (with_reducible refine Ext.trans ?_ (by assumption)) | omega | (simp; done) | (simp; omega) | (refine Ext.size ?_) | (refine Nat.le_succ_of_le (Ext.size ?_))))
  have q0 : g0[h2.size]? = some (.cells #[str x.f.name, str x.f.last, .slice pa x.f.ps.length pc] rfT) := by
    rw [eg0]; exact obj_set (obj_set (obj_set (get_pushed rfl)))
  rw [show hset (hset (hset (h2.push (.cells #[str [], str [], .slice none 0 0] 99)) ⟨h2.size, 0, none⟩ (str x.f.name)) ⟨h2.size, 1, none⟩ (str x.f.last)) ⟨h2.size, 2, none⟩ (.slice pa x.f.ps.length pc) = g0 from eg0.symm]
  clear eg0
  refine JoinN_in1 (fun v g => v = .int .i64 (x.f.ps.length : Nat) ∧ g0 = g) (fun kk hkk => ?_) (fun v g hv => ?_)
  · simp (disch := omega)
    exact hkk _ _ ⟨rfl, rfl⟩
  obtain ⟨rfl, rfl⟩ := hv
  refine loopX1 (α := Nat) (fun i => .int .i64 i) (fun i g => i ≤ x.f.ps.length ∧ Ext h2 g ∧ g[h2.size]? = some (.cells #[str x.f.name, str (layAll x.f.last (x.f.ps.take i)), .slice pa x.f.ps.length pc] rfT)) (fun i => x.f.ps.length - i) 0 rfl ⟨Nat.zero_le _, e0, by rw [List.take_zero]; exact q0⟩ ?_
  rintro i g ⟨hi, eg, qg⟩ X hX'
  try dsimp only at hi hX' ⊢
  have q1 := cellOf (i := 1) qg rfl
  have q2 := cellOf (i := 2) qg rfl
  have q0 := cellOf (i := 0) qg rfl
  have s1 := frzOf (i := 1) qg
  have s2 := frzOf (i := 2) qg
  have hlay : ∀ i, (layAll x.f.last (x.f.ps.take i)).length = x.f.last.length := fun i => layAll_len fun q hq => (hok.pc q (List.mem_of_mem_take hq)).2
  have hlast := hok.few
  by_cases hil : i < x.f.ps.length
  · obtain ⟨ad', rfl, -, -, w0, w1⟩ := rp_cell (ox.ext eg) hil
    have hqk := hok.pc _ (List.getElem_mem hil)
    have hfit : x.f.ps[i].at_ + x.f.ps[i].b.length ≤ x.f.last.length := hqk.2
    have hli := hlay i
    simp (disch := omega) [q1, q2, w0, w1]
    refine over_c (by omega) (by omega) ?_
    simp (disch := omega) [q1, s1]
    refine hX' (i + 1) _ _ (by simp) ⟨hil, hset_ext eg (by simp), ?_⟩ (by omega)
    rw [layAll_take hil]
    exact obj_set qg
  · obtain rfl : i = x.f.ps.length := by omega
    simp (disch := omega) [q1, q2, Hp_slgLN (P := Try.prog) (t := 97) (s := 2) (by kernel_rfl)]
    have src := ((ox.ext eg).dropO (lo := x.f.ps.length) (Nat.le_refl _)).src
    rw [rpV_drop, Nat.sub_self] at src
    refine Hp_appendG (e := rpT) (s := 2) (by_ := 24) (n := 0) (k := 0) (by kernel_rfl) (by kernel_rfl) OwnG.nil rfl (by omega) src (rpV_one _) (by omega) (by omega) fun v1 h3 o3 m3 f3 _ => ?_
    have e3 : Ext g h3 := m3.ext_from (.refl _) (fun b hb e => by cases e)
    rw [List.nil_append, List.drop_length] at o3
    obtain ⟨va, vn, vc, rfl, hvn, -, -⟩ := o3.form
    have q3 := (e3.block _ (get_some_lt qg)).trans qg
    have w2 := cellOf (i := 2) q3 rfl
    have w0 := cellOf (i := 0) q3 rfl
    have w1 := cellOf (i := 1) q3 rfl
    have s2 := frzOf (i := 2) q3
    have E3 := eg.trans e3
    have a3 := a2.ext E3
    have hpl := get_some_lt a2.cells
    have hxl := get_some_lt qg
    obtain ⟨b2, o2, c2, hsv2, -, -, u0, u1, u2', t0, t1, t2⟩ := a3.cellB (i := A.length) hAl
    have d3 : hcell h3 ⟨p, 0, none⟩ = some (.slice (some ⟨b, o, none⟩) r.X.length c) := hsv ▸ cellOf (i := 0) a3.cells rfl
    dsimp only at hsv2 u0 u1 u2' t0 t1 t2
    rw [hxi] at u0 u1 u2'
    rw [hsv] at hsv2
    cases hsv2
    have hxb : b ≠ h2.size := by omega
    have hbx : h2.size ≠ b := by omega
    simp (disch := omega) [w0, w1, w2, s2, d3, elt_mk, t0, t1, t2, u0, u1, u2', hxb, hbx]
    have e4 : Ext h2 (hset h3 ⟨h2.size, 2, none⟩ (.slice va vn vc)) := hset_ext E3 (by simp)
    have u4 := RUpd.of_ext a2 e4
    have hla : layAll x.f.last x.f.ps = (x.f.flush x.f.ps.length).last := by unfold Fl.flush; rw [List.take_length]
    have hdr : (x.f.flush x.f.ps.length).ps = [] := by unfold Fl.flush; rw [List.drop_length]
    have o4 : OwnG rpT 2 (hset h3 ⟨h2.size, 2, none⟩ (.slice va vn vc)) (.slice va vn vc) ((x.f.flush x.f.ps.length).ps.flatMap rpV) := by
      rw [hdr]
      exact o3.mod (Mod.set h3 ⟨h2.size, 2, none⟩ (.slice va vn vc)) (fun b hb e => by
        have h9 : b = h2.size := e
        exact o3.ne hb q3 (by decide) h9)
    have u5 := u4.st.put3B (x' := ⟨x.f.flush x.f.ps.length, .slice va vn vc⟩) hX hsv hsc rfl (hok.flush _) (by rw [hdr]; exact Nat.zero_le _) o4
    have := H1 _ A x B _ ho hX hxn (u2.trans (u4.trans u5))
    rw [← hla] at this
    exact this
end Go.Proofs.Ytdmcaaojapcbcaa
