/- Store: the sorted names. Store: a going over pieces. Store: how many pieces there are. Store: picks. Store: crashed. Store: the laws' calls. -/
import Derived.Test.YtcbbdnaelimpfaaGreatStoB
import Derived.Test.YtcbbdnaelimpfaaGreatSrtD
import Derived.Test.YtcbbdnaelimpfaaGreatVcRange
import Derived.Test.YtcbbdnaelimpfaaGreatOpen
set_option linter.unusedSimpArgs false
set_option linter.unusedVariables false
namespace Go.Proofs.YtcbbdnaelimpfaaGreat
open Go.Vc
variable {K : Value → Heap → Prop} {h : Heap}

def stT : Nat := 9
def lsT : Nat := 105
end Go.Proofs.YtcbbdnaelimpfaaGreat
set_option linter.unusedSimpArgs false
set_option linter.unusedVariables false
namespace Go.Proofs.YtcbbdnaelimpfaaGreat
open Go.Vc
variable {K : Value → Heap → Prop} {h : Heap}

def psT : Nat := 170
def peT : Nat := 150
structure Pseq (h : Heap) (sb : Nat) (v : Value) (L : List (Int × Int)) : Prop where
  cell : h[sb]? = some (.cells #[v] psT)
  row : OwnG peT 2 h v (L.flatMap faV)
  few : L.length ≤ 1000000000000
theorem Pseq.mod {S : Nat → Prop} {h' : Heap} {sb : Nat} {v : Value} {L : List (Int × Int)} (a : Pseq h sb v L) (m : Mod S h h') (h1 : ¬ S sb) (h2 : ∀ b, blkG v = some b → ¬ S b) : Pseq h' sb v L :=
  ⟨(m.block _ (get_some_lt a.cell) h1).trans a.cell, a.row.mod m h2, a.few⟩
theorem Pseq.ext {h' : Heap} {sb : Nat} {v : Value} {L : List (Int × Int)} (a : Pseq h sb v L) (e : Ext h h') : Pseq h' sb v L := a.mod (S := fun _ => False) (.of_ext e) (fun x => x) (fun _ _ x => x)
def ppL (ps : List Pc) : List (Int × Int) := ps.map fun p => ((p.at_ : Int), (p.b.length : Int))
def St.psOf (s : St) (l : List UInt8) : List Pc := if okName l then (match s.get l with | some x => x.f.ps | none => []) else []
end Go.Proofs.YtcbbdnaelimpfaaGreat
set_option linter.unusedSimpArgs false
set_option linter.unusedVariables false
namespace Go.Proofs.YtcbbdnaelimpfaaGreat
open Go.Vc
variable {K : Value → Heap → Prop} {h : Heap}

def St.pend (s : St) : Nat := (s.F.map fun x => x.f.ps.length).sum
theorem psOf_mem {p : Nat} {s : St} (a : StAt h p s) {x : Fh} (hx : x ∈ s.F) : s.get x.name = some x ∧ s.psOf x.name = x.f.ps := by
  have hg : s.get x.name = some x := by
    unfold St.get
    have nd := a.nodup
    generalize s.F = F at hx nd
    induction F with
    | nil => cases hx
    | cons y F ih =>
      rw [List.find?_cons]
      rw [List.map_cons, List.nodup_cons] at nd
      rcases List.mem_cons.1 hx with rfl | hx
      · simp
      · have : y.name ≠ x.name := fun e => nd.1 (e ▸ List.mem_map_of_mem hx)
        simp only [this, decide_false]
        exact ih hx nd.2
  refine ⟨hg, ?_⟩
  unfold St.psOf
  rw [if_pos (a.names x hx), hg]
theorem pend_perm {p : Nat} {s : St} (a : StAt h p s) {L : List (List UInt8)} (hp : L.Perm (s.F.map (·.name))) : (L.map fun n => (s.psOf n).length).sum = s.pend := by
  rw [(hp.map fun n => (s.psOf n).length).sum_nat, List.map_map]
  unfold St.pend
  congr 1
  exact List.map_congr_left fun x hx => by show (s.psOf x.name).length = _; rw [(psOf_mem a hx).2]
end Go.Proofs.YtcbbdnaelimpfaaGreat
set_option linter.unusedSimpArgs false
set_option linter.unusedVariables false
namespace Go.Proofs.YtcbbdnaelimpfaaGreat
open Go.Vc
variable {K : Value → Heap → Prop} {h : Heap}

def inV (n : Int) : Value := .int .i64 n
structure Its (h : Heap) (v : Value) (l : List Int) : Prop where
  src : Src 1 h v l.length (l.map inV)
  form : ∃ a c, v = .slice a l.length c ∧ l.length ≤ c
  few : l.length < 9223372036854775808
  ok : ∀ n ∈ l, -9223372036854775808 ≤ n ∧ n < 9223372036854775808
theorem Its.ext {h' : Heap} {v : Value} {l : List Int} (a : Its h v l) (e : Ext h h') : Its h' v l := ⟨a.src.ext e, a.form, a.few, a.ok⟩
theorem Its.seg {v : Value} {l : List Int} (a : Its h v l) (hl : l ≠ []) : ∃ ad c, v = .slice (some ad) l.length c ∧ l.length ≤ c ∧ Seg h ad (l.map inV) := by
  obtain ⟨a0, c, rfl, hc⟩ := a.form
  rcases a.src with ⟨e, e2, e3⟩ | ⟨ad, c', e, e2, hs⟩ | ⟨l, e, -⟩
  · exact absurd (List.length_eq_zero_iff.1 e3) hl
  · cases e; exact ⟨ad, c, rfl, hc, hs⟩
  · cases e
theorem Its.cell {v : Value} {l : List Int} (a : Its h v l) {i : Nat} (hi : i < l.length) : ∃ ad c, v = .slice (some ad) l.length c ∧ l.length ≤ c ∧ hcell h (elt ad i) = some (.int .i64 l[i]) := by
  obtain ⟨ad, c, h1, h2, h3⟩ := a.seg (by intro e; rw [e] at hi; simp at hi)
  refine ⟨ad, c, h1, h2, (h3 i (by simpa using hi)).trans ?_⟩
  simp [inV]
theorem Its.mod {S : Nat → Prop} {h' : Heap} {v : Value} {l : List Int} (a : Its h v l) (m : Mod S h h') (hS : l ≠ [] → ∀ b, blkV v = some b → ¬ S b) : Its h' v l := by
  refine ⟨?_, a.form, a.few, a.ok⟩
  rcases a.src with x | ⟨ad, c', e, e2, hs⟩ | x
  · exact .inl x
  · refine .inr (.inl ⟨ad, c', e, e2, ?_⟩)
    by_cases hl : l = []
    · subst hl
      intro i hi
      simp at hi
    · exact hs.mod m (hS hl _ (by rw [e]; rfl))
  · exact .inr (.inr x)
theorem Its.tail {k : Int} {l : List Int} {ad : Addr} {c : Nat} (a : Its h (.slice (some ad) (l.length + 1) c) (k :: l)) : Its h (.slice (some (sub ad 1 c)) l.length (c - 1)) l := by
  obtain ⟨a0, c0, he, hc⟩ := a.form
  cases he
  refine ⟨.inr (.inl ⟨_, _, rfl, by simp, ?_⟩), ⟨_, _, rfl, by simp at hc; omega⟩, by have := a.few; simp at this; omega, fun n hn => a.ok n (List.mem_cons_of_mem _ hn)⟩
  obtain ⟨ad', c', he, -, hs⟩ := a.seg (by simp)
  cases he
  have := hs.part 1 (l.length + 1) c (by omega) (by simp) (by simpa using hc)
  have e : ((k :: l).map inV).take (l.length + 1) = (k :: l).map inV := List.take_of_length_le (by simp)
  rw [e] at this
  simpa using this

def pickB : List Int → Bool
  | [] => false
  | k :: _ => decide (k % 2 = 1)
def isT : Nat := 49
theorem picked_snoc : ∀ {ks : List Int} {ps : List Pc} {j : Nat} (hj : j < ps.length), picked ks (ps.take (j + 1)) = picked ks (ps.take j) ++ (if pickB (ks.drop j) then [ps[j]] else [])
  | [], ps, j, hj => by
    rw [picked_nil, picked_nil]; simp [pickB]
  | k :: ks, p :: ps, 0, _ => by
    have h1 : picked (k :: ks) ([] : List Pc) = [] := rfl
    have h2 : picked ks ([] : List Pc) = [] := by cases ks <;> rfl
    have h3 : picked (k :: ks) [p] = if k % 2 = 1 then p :: picked ks [] else picked ks [] := rfl
    simp only [List.take_succ_cons, List.take_zero, List.drop_zero]
    rw [h1, h3, h2]
    by_cases h : k % 2 = 1 <;> simp [pickB, h]
  | k :: ks, p :: ps, j + 1, hj => by
    have := picked_snoc (ks := ks) (ps := ps) (j := j) (by simpa using hj)
    simp only [List.take_succ_cons, List.drop_succ_cons, List.getElem_cons_succ]
    rw [picked, picked, this]
    split
    · rfl
    · rfl
end Go.Proofs.YtcbbdnaelimpfaaGreat
set_option linter.unusedSimpArgs false
set_option linter.unusedVariables false
namespace Go.Proofs.YtcbbdnaelimpfaaGreat
open Go.Vc
variable {K : Value → Heap → Prop} {h : Heap}

def St.flOf (s : St) (n : List UInt8) : Fl := match s.get n with | some x => x.f | none => ⟨n, [], []⟩
def npc (fs : List Fl) : Nat := (fs.map fun f => f.ps.length).sum
end Go.Proofs.YtcbbdnaelimpfaaGreat
set_option linter.unusedSimpArgs false
set_option linter.unusedVariables false
namespace Go.Proofs.YtcbbdnaelimpfaaGreat
open Go.Vc
variable {K : Value → Heap → Prop} {h : Heap}

def i64 (n : Int) : Prop := -9223372036854775808 ≤ n ∧ n < 9223372036854775808
structure Stp where
  kind : Int
  n : Int
  at_ : Int
  name : List UInt8
  bv : Value
  fv : Value
  pv : Value
  b : List UInt8
  fs : List (Int × Int)
  pl : List Int
def Stp.cells (x : Stp) : List Value := [.int .i64 x.kind, .int .i64 x.n, .int .i64 x.at_, str x.name, x.bv, x.fv, x.pv]
structure StpOk (h : Heap) (x : Stp) : Prop where
  kind : i64 x.kind
  n : i64 x.n
  at_ : i64 x.at_
  name : x.name.length < 9223372036854775808
  b : Bytes h x.bv x.b
  bl : x.b.length < 9223372036854775808
  fs : Fas h x.fv x.fs
  pl : Its h x.pv x.pl
theorem StpOk.ext {h' : Heap} {x : Stp} (a : StpOk h x) (e : Ext h h') : StpOk h' x := ⟨a.kind, a.n, a.at_, a.name, a.b.ext e, a.bl, a.fs.ext e, a.pl.ext e⟩
structure Sps (h : Heap) (v : Value) (xs : List Stp) : Prop where
  slc : Slc 7 h v (fun us x => us = x.cells) xs
  ok : ∀ x ∈ xs, StpOk h x
  len : xs.length < 9223372036854775808
theorem slc_ext {α : Type} {s : Nat} {h' : Heap} {v : Value} {R : List Value → α → Prop} {xs : List α} (a : Slc s h v R xs) (e : Ext h h') : Slc s h' v R xs := by
  rcases a with a | ⟨a, c, h1, h2, h3⟩
  · exact .inl a
  · refine .inr ⟨a, c, h1, h2, fun i hi => ?_⟩
    obtain ⟨us, h4, h5, h6⟩ := h3 i hi
    exact ⟨us, h4, h5.ext e, h6⟩
theorem Sps.ext {h' : Heap} {v : Value} {xs : List Stp} (a : Sps h v xs) (e : Ext h h') : Sps h' v xs := ⟨slc_ext a.slc e, fun x hx => (a.ok x hx).ext e, a.len⟩
theorem Sps.form {v : Value} {xs : List Stp} (a : Sps h v xs) : ∃ o c, v = .slice o xs.length c := Slc.form a.slc
theorem Sps.cell {v : Value} {xs : List Stp} (s : Sps h v xs) {i : Nat} (hi : i < xs.length) : ∃ a c, v = .slice (some a) xs.length c ∧ hcell h (elt a (i * 7)) = some (.int .i64 xs[i].kind) ∧ hcell h (elt a (i * 7 + 1)) = some (.int .i64 xs[i].n) ∧
    hcell h (elt a (i * 7 + 2)) = some (.int .i64 xs[i].at_) ∧ hcell h (elt a (i * 7 + 3)) = some (str xs[i].name) ∧ hcell h (elt a (i * 7 + 4)) = some xs[i].bv ∧ hcell h (elt a (i * 7 + 5)) = some xs[i].fv ∧ hcell h (elt a (i * 7 + 6)) = some xs[i].pv := by
  rcases s.slc with ⟨h1, rfl⟩ | ⟨a, c, h1, h2, h3⟩
  · cases hi
  · obtain ⟨us, -, h5, rfl⟩ := h3 i hi
    have := fun j hj => h5 j hj
    unfold Stp.cells at this
    have e0 := this 0 (by simp)
    have e1 := this 1 (by simp)
    have e2 := this 2 (by simp)
    have e3 := this 3 (by simp)
    have e4 := this 4 (by simp)
    have e5 := this 5 (by simp)
    have e6 := this 6 (by simp)
    rw [elt_elt] at e0 e1 e2 e3 e4 e5 e6
    exact ⟨a, c, h1, e0, e1, e2, e3, e4, e5, e6⟩
theorem slc_seg {α : Type} {s : Nat} {a : Addr} {f : α → List Value} : ∀ (xs : List α) (k : Nat), (∀ x, (f x).length = s) → (∀ (i : Nat) (hi : i < xs.length), Seg h (elt a ((k + i) * s)) (f xs[i])) → Seg h (elt a (k * s)) (xs.flatMap f)
  | [], k, _, _ => fun i hi => by simp at hi
  | x :: xs, k, hf, H => by
    have ih := slc_seg xs (k + 1) hf (fun i hi => by
      have := H (i + 1) (by simpa using hi)
      rw [show k + 1 + i = k + (i + 1) by omega]
      simpa using this)
    have h0 := H 0 (by simp)
    intro i hi
    rw [List.flatMap_cons] at hi
    by_cases h1 : i < (f x).length
    · have := h0 i (by simpa using h1)
      simp only [Nat.add_zero, List.getElem_cons_zero] at this
      rw [this]
      simp only [List.flatMap_cons]
      rw [List.getElem_append_left h1]
    · have hl := hf x
      have := ih (i - s) (by rw [List.length_append] at hi; omega)
      rw [elt_elt, Nat.add_mul, Nat.one_mul, show k * s + s + (i - s) = k * s + i by omega] at this
      rw [elt_elt, this]
      simp only [List.flatMap_cons]
      rw [List.getElem_append_right (by omega)]
      simp only [hl]
theorem Fas.of {v : Value} {fs : List (Int × Int)} (s : Slc 2 h v (fun us f => us = faV f) fs) (hl : fs.length < 9223372036854775808) (ho : ∀ f ∈ fs, i64 f.1 ∧ i64 f.2) : Fas h v fs := by
  refine ⟨?_, ?_, hl, fun f hf => ⟨(ho f hf).1.1, (ho f hf).1.2, (ho f hf).2.1, (ho f hf).2.2⟩⟩
  · rcases s with ⟨rfl, rfl⟩ | ⟨a, c, rfl, h2, h3⟩
    · exact .inl ⟨rfl, rfl, rfl⟩
    · refine .inr (.inl ⟨a, c, rfl, faV_len _, ?_⟩)
      have := slc_seg (h := h) (a := a) (s := 2) (f := faV) fs 0 (fun x => rfl) (fun i hi => by
        obtain ⟨us, -, h5, rfl⟩ := h3 i hi
        rw [Nat.zero_add]; exact h5)
      simpa using this
  · rcases s with ⟨rfl, rfl⟩ | ⟨a, c, rfl, h2, h3⟩
    · exact ⟨none, 0, rfl, Nat.le_refl _⟩
    · exact ⟨_, c, rfl, h2⟩
theorem flat1 : ∀ l : List Int, l.flatMap (fun n => [inV n]) = l.map inV
  | [] => rfl
  | x :: l => by rw [List.flatMap_cons, flat1 l]; rfl
theorem Its.of {v : Value} {l : List Int} (s : Slc 1 h v (fun us n => us = [inV n]) l) (hl : l.length < 9223372036854775808) (ho : ∀ n ∈ l, i64 n) : Its h v l := by
  refine ⟨?_, ?_, hl, fun f hf => ho f hf⟩
  · rcases s with ⟨rfl, rfl⟩ | ⟨a, c, rfl, h2, h3⟩
    · exact .inl ⟨rfl, rfl, rfl⟩
    · refine .inr (.inl ⟨a, c, rfl, by simp, ?_⟩)
      have := slc_seg (h := h) (a := a) (s := 1) (f := fun n => [inV n]) l 0 (fun x => rfl) (fun i hi => by
        obtain ⟨us, -, h5, rfl⟩ := h3 i hi
        rw [Nat.zero_add]; exact h5)
      have e : l.flatMap (fun n => [inV n]) = l.map inV := flat1 l
      rw [e] at this
      simpa using this
  · rcases s with ⟨rfl, rfl⟩ | ⟨a, c, rfl, h2, h3⟩
    · exact ⟨none, 0, rfl, Nat.le_refl _⟩
    · exact ⟨_, c, rfl, h2⟩

section
open Go Go.ChangeShapes Go.WideShapes Go.ChangeAt Go.RowKit Go.Deep
variable {H : Type} {enc : TypeId × Value → H} {w : World} {base : Nat} {sp : Nat → Bool} {held : Bool}
end
end Go.Proofs.YtcbbdnaelimpfaaGreat
