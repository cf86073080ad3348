/- Store: the laws' calls. Store: what the laws bar; scripts played. Store: a script played. -/
import Derived.Test.YtdmcaaojapcbcaaStoE
import Derived.Test.YtdmcaaojapcbcaaOpen
import Derived.Test.YtdmcaaojapcbcaaStoB
set_option linter.unusedSimpArgs false
set_option linter.unusedVariables false
namespace Go.Proofs.Ytdmcaaojapcbcaa
open Go.Vc
variable {K : Value → Heap → Prop} {h : Heap}

def i64 (n : Int) : Prop := -9223372036854775808 ≤ n ∧ n < 9223372036854775808
/-- A call of a script. -/
structure Stp where
  kind : Int
  n : Int
  at_ : Int
  name : List UInt8
  bv : Value
  fv : Value
  pv : Value
  b : List UInt8
  fs : List (Int × Int)
  pl : List Int
def Stp.cells (x : Stp) : List Value := [.int .i64 x.kind, .int .i64 x.n, .int .i64 x.at_, str x.name, x.bv, x.fv, x.pv]
structure StpOk (h : Heap) (x : Stp) : Prop where
  kind : i64 x.kind
  n : i64 x.n
  at_ : i64 x.at_
  name : x.name.length < 9223372036854775808
  b : Bytes h x.bv x.b
  bl : x.b.length < 9223372036854775808
  fs : Fas h x.fv x.fs
  pl : Its h x.pv x.pl
theorem StpOk.ext {h' : Heap} {x : Stp} (a : StpOk h x) (e : Ext h h') : StpOk h' x := ⟨a.kind, a.n, a.at_, a.name, a.b.ext e, a.bl, a.fs.ext e, a.pl.ext e⟩
structure Sps (h : Heap) (v : Value) (xs : List Stp) : Prop where
  slc : Slc 7 h v (fun us x => us = x.cells) xs
  ok : ∀ x ∈ xs, StpOk h x
  len : xs.length < 9223372036854775808
theorem slc_ext {α : Type} {s : Nat} {h' : Heap} {v : Value} {R : List Value → α → Prop} {xs : List α} (a : Slc s h v R xs) (e : Ext h h') : Slc s h' v R xs := by
  rcases a with a | ⟨a, c, h1, h2, h3⟩
  · exact .inl a
  · refine .inr ⟨a, c, h1, h2, fun i hi => ?_⟩
    obtain ⟨us, h4, h5, h6⟩ := h3 i hi
    exact ⟨us, h4, h5.ext e, h6⟩
theorem Sps.ext {h' : Heap} {v : Value} {xs : List Stp} (a : Sps h v xs) (e : Ext h h') : Sps h' v xs := ⟨slc_ext a.slc e, fun x hx => (a.ok x hx).ext e, a.len⟩
theorem Sps.form {v : Value} {xs : List Stp} (a : Sps h v xs) : ∃ o c, v = .slice o xs.length c := Slc.form a.slc
theorem Sps.cell {v : Value} {xs : List Stp} (s : Sps h v xs) {i : Nat} (hi : i < xs.length) : ∃ a c, v = .slice (some a) xs.length c ∧ hcell h (elt a (i * 7)) = some (.int .i64 xs[i].kind) ∧ hcell h (elt a (i * 7 + 1)) = some (.int .i64 xs[i].n) ∧
    hcell h (elt a (i * 7 + 2)) = some (.int .i64 xs[i].at_) ∧ hcell h (elt a (i * 7 + 3)) = some (str xs[i].name) ∧ hcell h (elt a (i * 7 + 4)) = some xs[i].bv ∧ hcell h (elt a (i * 7 + 5)) = some xs[i].fv ∧ hcell h (elt a (i * 7 + 6)) = some xs[i].pv := by
  rcases s.slc with ⟨h1, rfl⟩ | ⟨a, c, h1, h2, h3⟩
  · cases hi
  · obtain ⟨us, -, h5, rfl⟩ := h3 i hi
    have := fun j hj => h5 j hj
    unfold Stp.cells at this
    have e0 := this 0 (by simp)
    have e1 := this 1 (by simp)
    have e2 := this 2 (by simp)
    have e3 := this 3 (by simp)
    have e4 := this 4 (by simp)
    have e5 := this 5 (by simp)
    have e6 := this 6 (by simp)
    rw [elt_elt] at e0 e1 e2 e3 e4 e5 e6
    exact ⟨a, c, h1, e0, e1, e2, e3, e4, e5, e6⟩
/-- Slices of elements of two cells, or one, from their elements. -/
theorem slc_seg {α : Type} {s : Nat} {a : Addr} {f : α → List Value} : ∀ (xs : List α) (k : Nat), (∀ x, (f x).length = s) → (∀ (i : Nat) (hi : i < xs.length), Seg h (elt a ((k + i) * s)) (f xs[i])) → Seg h (elt a (k * s)) (xs.flatMap f)
  | [], k, _, _ => fun i hi => by simp at hi
  | x :: xs, k, hf, H => by
    have ih := slc_seg xs (k + 1) hf (fun i hi => by
      have := H (i + 1) (by simpa using hi)
      rw [show k + 1 + i = k + (i + 1) by omega]
      simpa using this)
    have h0 := H 0 (by simp)
    intro i hi
    rw [List.flatMap_cons] at hi
    by_cases h1 : i < (f x).length
    · have := h0 i (by simpa using h1)
      simp only [Nat.add_zero, List.getElem_cons_zero] at this
      rw [this]
      simp only [List.flatMap_cons]
      rw [List.getElem_append_left h1]
    · have hl := hf x
      have := ih (i - s) (by rw [List.length_append] at hi; omega)
      rw [elt_elt, Nat.add_mul, Nat.one_mul, show k * s + s + (i - s) = k * s + i by omega] at this
      rw [elt_elt, this]
      simp only [List.flatMap_cons]
      rw [List.getElem_append_right (by omega)]
      simp only [hl]
theorem Fas.of {v : Value} {fs : List (Int × Int)} (s : Slc 2 h v (fun us f => us = faV f) fs) (hl : fs.length < 9223372036854775808) (ho : ∀ f ∈ fs, i64 f.1 ∧ i64 f.2) : Fas h v fs := by
  refine ⟨?_, ?_, hl, fun f hf => ⟨(ho f hf).1.1, (ho f hf).1.2, (ho f hf).2.1, (ho f hf).2.2⟩⟩
  · rcases s with ⟨rfl, rfl⟩ | ⟨a, c, rfl, h2, h3⟩
    · exact .inl ⟨rfl, rfl, rfl⟩
    · refine .inr (.inl ⟨a, c, rfl, faV_len _, ?_⟩)
      have := slc_seg (h := h) (a := a) (s := 2) (f := faV) fs 0 (fun x => rfl) (fun i hi => by
        obtain ⟨us, -, h5, rfl⟩ := h3 i hi
        rw [Nat.zero_add]; exact h5)
      simpa using this
  · rcases s with ⟨rfl, rfl⟩ | ⟨a, c, rfl, h2, h3⟩
    · exact ⟨none, 0, rfl, Nat.le_refl _⟩
    · exact ⟨_, c, rfl, h2⟩
theorem flat1 : ∀ l : List Int, l.flatMap (fun n => [inV n]) = l.map inV
  | [] => rfl
  | x :: l => by rw [List.flatMap_cons, flat1 l]; rfl
theorem Its.of {v : Value} {l : List Int} (s : Slc 1 h v (fun us n => us = [inV n]) l) (hl : l.length < 9223372036854775808) (ho : ∀ n ∈ l, i64 n) : Its h v l := by
  refine ⟨?_, ?_, hl, fun f hf => ho f hf⟩
  · rcases s with ⟨rfl, rfl⟩ | ⟨a, c, rfl, h2, h3⟩
    · exact .inl ⟨rfl, rfl, rfl⟩
    · refine .inr (.inl ⟨a, c, rfl, by simp, ?_⟩)
      have := slc_seg (h := h) (a := a) (s := 1) (f := fun n => [inV n]) l 0 (fun x => rfl) (fun i hi => by
        obtain ⟨us, -, h5, rfl⟩ := h3 i hi
        rw [Nat.zero_add]; exact h5)
      have e : l.flatMap (fun n => [inV n]) = l.map inV := flat1 l
      rw [e] at this
      simpa using this
  · rcases s with ⟨rfl, rfl⟩ | ⟨a, c, rfl, h2, h3⟩
    · exact ⟨none, 0, rfl, Nat.le_refl _⟩
    · exact ⟨_, c, rfl, h2⟩

section
open Go Go.ChangeShapes Go.WideShapes Go.ChangeAt Go.RowKit Go.Deep
variable {H : Type} {enc : TypeId × Value → H} {w : World} {base : Nat} {sp : Nat → Bool} {held : Bool}
theorem i64_of {n : Int} (h : IntKind.i64.min ≤ n ∧ n ≤ IntKind.i64.max) : i64 n := by
  have h1 : IntKind.i64.min = -9223372036854775808 := by decide
  have h2 : IntKind.i64.max = 9223372036854775807 := by decide
  unfold i64; omega
theorem laid_fate {cs : List Value} (h : Laid enc Try.prog w base sp held 107 cs) : ∃ f : Int × Int, cs = faV f ∧ i64 f.1 ∧ i64 f.2 := by
  obtain ⟨hl, hL⟩ := h.flds (L := [(105, 0, 1), (3, 1, 1)]) (n := 2) (by kernel_rfl) (by kernel_rfl)
  obtain ⟨c0, c1, rfl⟩ := len2 hl
  obtain ⟨n0, hn0, r0, r0'⟩ := (hL 0 _ _ _ rfl).int (k := .i64) (by kernel_rfl)
  obtain rfl : c0 = .int .i64 n0 := by simpa using hn0
  obtain ⟨n1, hn1, r1, r1'⟩ := (hL 1 _ _ _ rfl).int (k := .i64) (by kernel_rfl)
  obtain rfl : c1 = .int .i64 n1 := by simpa using hn1
  exact ⟨(n0, n1), rfl, i64_of ⟨r0, r0'⟩, i64_of ⟨r1, r1'⟩⟩
theorem max63 {n : Nat} (h : n ≤ maxLen) : n < 9223372036854775808 := Nat.lt_of_le_of_lt h (by decide)
theorem slc_ok {α : Type} {s : Nat} {h : Heap} {v : Value} {R : List Value → α → Prop} {q : α → Prop} {f : α → List Value} {xs : List α} (a : Slc s h v R xs) (hR : ∀ us x, R us x → us = f x ∧ q x) : Slc s h v (fun us x => us = f x) xs ∧ ∀ x ∈ xs, q x := by
  rcases a with ⟨rfl, rfl⟩ | ⟨a, c, rfl, h2, h3⟩
  · exact ⟨.inl ⟨rfl, rfl⟩, fun x hx => by cases hx⟩
  · refine ⟨.inr ⟨a, c, rfl, h2, fun i hi => ?_⟩, fun x hx => ?_⟩
    · obtain ⟨us, h4, h5, h6⟩ := h3 i hi
      exact ⟨us, h4, h5, (hR _ _ h6).1⟩
    · obtain ⟨i, hi, rfl⟩ := List.getElem_of_mem hx
      obtain ⟨us, h4, h5, h6⟩ := h3 i hi
      exact (hR _ _ h6).2
theorem laid_fates {cs : List Value} (h : Laid enc Try.prog w base sp held 41 cs) : ∃ (v : Value) (fs : List (Int × Int)), cs = [v] ∧ Fas w.heap v fs := by
  obtain ⟨v, fs, rfl, hs, hl⟩ := h.slice (e := 107) (R := fun us (f : Int × Int) => us = faV f ∧ i64 f.1 ∧ i64 f.2) (by kernel_rfl) (fun us hu => laid_fate hu)
  have hc : Program.cellsOf Try.prog 107 = 2 := by kernel_rfl
  rw [hc] at hs
  obtain ⟨s1, s2⟩ := slc_ok (f := faV) hs (fun us x hx => hx)
  exact ⟨v, fs, rfl, Fas.of s1 (max63 hl) s2⟩
theorem laid_ints {cs : List Value} (h : Laid enc Try.prog w base sp held 23 cs) : ∃ (v : Value) (l : List Int), cs = [v] ∧ Its w.heap v l := by
  obtain ⟨v, l, rfl, hs, hl⟩ := h.slice (e := 3) (R := fun us (n : Int) => us = [inV n] ∧ i64 n) (by kernel_rfl) (fun us hu => by
    obtain ⟨n, e, r⟩ := hu.int (k := .i64) (by kernel_rfl)
    exact ⟨n, e, i64_of r⟩)
  have hc : Program.cellsOf Try.prog 3 = 1 := by kernel_rfl
  rw [hc] at hs
  obtain ⟨s1, s2⟩ := slc_ok (f := fun n => [inV n]) hs (fun us x hx => hx)
  exact ⟨v, l, rfl, Its.of s1 (max63 hl) s2⟩
set_option maxRecDepth 100000 in
theorem laid_step {cs : List Value} (h : Laid enc Try.prog w base sp held 61 cs) : ∃ x : Stp, cs = x.cells ∧ StpOk w.heap x := by
  obtain ⟨hl, hL⟩ := h.flds (L := [(3, 0, 1), (3, 1, 1), (2, 2, 1), (9, 3, 1), (50, 4, 1), (41, 5, 1), (23, 6, 1)]) (n := 7) (by kernel_rfl) (by kernel_rfl)
  obtain ⟨c0, c1, c2, c3, c4, c5, c6, rfl⟩ := len7 hl
  obtain ⟨n0, hn0, r0⟩ := (hL 0 _ _ _ rfl).int (k := .i64) (by kernel_rfl)
  obtain rfl : c0 = .int .i64 n0 := by simpa using hn0
  obtain ⟨n1, hn1, r1⟩ := (hL 1 _ _ _ rfl).int (k := .i64) (by kernel_rfl)
  obtain rfl : c1 = .int .i64 n1 := by simpa using hn1
  obtain ⟨n2, hn2, r2⟩ := (hL 2 _ _ _ rfl).int (k := .i64) (by kernel_rfl)
  obtain rfl : c2 = .int .i64 n2 := by simpa using hn2
  obtain ⟨l3, hn3, r3⟩ := (hL 3 _ _ _ rfl).str (by kernel_rfl)
  obtain rfl : c3 = str l3 := by simpa using hn3
  obtain ⟨v4, b4, hn4, hB4, r4⟩ := (hL 4 _ _ _ rfl).bytes (e := 5) (by kernel_rfl) (by kernel_rfl) (by kernel_rfl)
  obtain rfl : c4 = v4 := by simpa using hn4
  obtain ⟨v5, fs, hn5, r5⟩ := laid_fates (hL 5 _ _ _ rfl)
  obtain rfl : c5 = v5 := by simpa using hn5
  obtain ⟨v6, pl, hn6, r6⟩ := laid_ints (hL 6 _ _ _ rfl)
  obtain rfl : c6 = v6 := by simpa using hn6
  exact ⟨⟨n0, n1, n2, l3, c4, c5, c6, b4, fs, pl⟩, rfl, i64_of r0, i64_of r1, i64_of r2, max63 r3, hB4, max63 r4, r5, r6⟩
set_option maxRecDepth 100000 in
theorem open_steps {v : Value} {r : Reach} {b0 : Nat} {ps : List MemPlace} {d : DataW H} (hval : Value.okWide Try.prog w r b0 42 v) (hd : DataW.Trod enc Try.prog w base sp held 42 v d ps) : ∃ xs : List Stp, Sps w.heap v xs := by
  obtain ⟨v', xs, hv, hs, hlen⟩ := (Laid.top hval hd (by kernel_rfl)).slice (e := 61) (R := fun us (x : Stp) => us = x.cells ∧ StpOk w.heap x) (by kernel_rfl) (fun us hu => laid_step hu)
  obtain rfl : v = v' := by simpa using hv
  have hc : Program.cellsOf Try.prog 61 = 7 := by kernel_rfl
  rw [hc] at hs
  obtain ⟨s1, s2⟩ := slc_ok (f := Stp.cells) hs (fun us x hx => hx)
  exact ⟨xs, s1, s2, max63 hlen⟩
set_option maxRecDepth 100000 in
theorem open_fates {v : Value} {r : Reach} {b0 : Nat} {ps : List MemPlace} {d : DataW H} (hval : Value.okWide Try.prog w r b0 41 v) (hd : DataW.Trod enc Try.prog w base sp held 41 v d ps) : ∃ fs, Fas w.heap v fs := by
  obtain ⟨v', fs, hv, hs⟩ := laid_fates (Laid.top hval hd (by kernel_rfl))
  obtain rfl : v = v' := by simpa using hv
  exact ⟨fs, hs⟩
set_option maxRecDepth 100000 in
theorem open_its {v : Value} {r : Reach} {b0 : Nat} {ps : List MemPlace} {d : DataW H} (hval : Value.okWide Try.prog w r b0 23 v) (hd : DataW.Trod enc Try.prog w base sp held 23 v d ps) : ∃ l, Its w.heap v l := by
  obtain ⟨v', l, hv, hs⟩ := laid_ints (Laid.top hval hd (by kernel_rfl))
  obtain rfl : v = v' := by simpa using hv
  exact ⟨l, hs⟩
end
end Go.Proofs.Ytdmcaaojapcbcaa
set_option linter.unusedSimpArgs false
set_option linter.unusedVariables false
namespace Go.Proofs.Ytdmcaaojapcbcaa
open Go.Vc
variable {K : Value → Heap → Prop} {h : Heap}

theorem refRight_c {v : Value} {fs : List (Int × Int)} (a : Fas h v fs) (H : K (.bool (fs.all rightF)) h) : CallsH Try.prog 20 #[v] h K ⟨⟩ := by
  refine n20_calls ?_
  unfold n20
  obtain ⟨a0, c, rfl, hc⟩ := a.form
  have hfew := a.few
  refine loopX1 (α := Nat) (fun i => .int .i64 i) (fun i g => i ≤ fs.length ∧ g = h ∧ ∀ j (hj : j < fs.length), j < i → rightF fs[j] = true) (fun i => fs.length - i) 0 rfl ⟨Nat.zero_le _, rfl, fun j _ hj => by omega⟩ ?_
  rintro i g ⟨hi, rfl, hr⟩ X hX
  by_cases hin : i < fs.length
  · obtain ⟨ad, c', hv, -, q1, q2⟩ := a.cell hin
    cases hv
    have no : rightF fs[i] = false → K (.bool false) g := fun hb => by
      have : fs.all rightF = false := by
        rw [List.all_eq_false]
        exact ⟨fs[i], List.getElem_mem hin, by rw [hb]; decide⟩
      rw [this] at H; exact H
    by_cases h1 : fs[i].1 < 0
    · simp (disch := omega) [q1, h1]
      exact no (by unfold rightF; rw [decide_eq_false (by omega)]; rfl)
    by_cases h2 : 2 < fs[i].1
    · simp (disch := omega) [q1, h1, h2]
      exact no (by unfold rightF; rw [decide_eq_false (show ¬ fs[i].1 ≤ 2 by omega)]; simp)
    · simp (disch := omega) [q1, h1, h2]
      refine hX (i + 1) _ _ (by simp) ⟨hin, rfl, fun j hj hji => ?_⟩ (by omega)
      by_cases e : j = i
      · subst e
        unfold rightF; simp; omega
      · exact hr j hj (by omega)
  · obtain rfl : i = fs.length := by omega
    have : fs.all rightF = true := by
      rw [List.all_eq_true]
      intro f hf
      obtain ⟨j, hj, rfl⟩ := List.getElem_of_mem hf
      exact hr j hj hj
    rw [this] at H
    simp (disch := omega)
    exact H

def Lim (x : Stp) : Prop := x.b.length ≤ 3000 ∧ x.fs.length ≤ 60
set_option maxHeartbeats 4000000 in
theorem vast6_c {v : Value} {xs : List Stp} (s : Sps h v xs) (HT : ∀ h', Ext h h' → K (.bool true) h') (HF : ∀ h', Ext h h' → xs.length ≤ 120 → (∀ x ∈ xs, Lim x) → K (.bool false) h') : CallsH Try.prog 19 #[v] h K ⟨⟩ := by
  refine n19_calls ?_
  unfold n19
  obtain ⟨a0, c, rfl⟩ := s.form
  have hlen := s.len
  by_cases hbig : 120 < xs.length
  · simp (disch := omega)
    exact HT h (.refl _)
  simp (disch := omega)
  refine loopX1 (α := Nat) (fun i => .int .i64 i) (fun i g => i ≤ xs.length ∧ Ext h g ∧ ∀ j (hj : j < xs.length), j < i → Lim xs[j]) (fun i => xs.length - i) 0 rfl ⟨Nat.zero_le _, .refl _, fun j _ hj => by omega⟩ ?_
  rintro i g ⟨hi, eg, hr⟩ X hX
  by_cases hin : i < xs.length
  · obtain ⟨ad, c', hv, q0, q1, q2, q3, q4, q5, q6⟩ := (s.ext eg).cell hin
    cases hv
    have ok := s.ok _ (List.getElem_mem hin)
    obtain ⟨bo, bc, hbv⟩ := ok.b.form
    obtain ⟨fo, fc, hfv, -⟩ := ok.fs.form
    obtain ⟨po, pc, hpv, -⟩ := ok.pl.form
    rw [hbv] at q4
    rw [hfv] at q5
    rw [hpv] at q6
    generalize hx : xs[i] = x at *
    obtain ⟨kind, n, at_, name, bv, fv, pv, b, fs, pl⟩ := x
    dsimp only at q0 q1 q2 q3 q4 q5 q6
    have nx : Lim ⟨kind, n, at_, name, bv, fv, pv, b, fs, pl⟩ → ∀ j (hj : j < xs.length), j < i + 1 → Lim xs[j] := fun hl j hj hji => by
      by_cases e : j = i
      · subst e; rw [hx]; exact hl
      · exact hr j hj (by omega)
    have k1 := ok.bl
    have k2 := ok.fs.few
    have k3 := ok.pl.few
    dsimp only at k1 k2 k3
    by_cases h1 : 3000 < b.length
    · simp (disch := omega) [q0, q1, q2, q3, q4, q5, q6]
      exact HT _ (eg.trans (by repeat' (first | (with_reducible exact Ext.refl _) | (with_reducible assumption) | (with_reducible refine push_ext ?_) | (with_reducible refine hset_ext ?_ ?_) | (with_reducible refine Ext.trans ?_ (by assumption)) | omega | (simp; done) | (simp; omega) | (refine Ext.size ?_) | (refine Nat.le_succ_of_le (Ext.size ?_)))))
    by_cases h2 : 60 < fs.length
    · simp (disch := omega) [q0, q1, q2, q3, q4, q5, q6]
      exact HT _ (eg.trans (by repeat' (first | (with_reducible exact Ext.refl _) | (with_reducible assumption) | (with_reducible refine push_ext ?_) | (with_reducible refine hset_ext ?_ ?_) | (with_reducible refine Ext.trans ?_ (by assumption)) | omega | (simp; done) | (simp; omega) | (refine Ext.size ?_) | (refine Nat.le_succ_of_le (Ext.size ?_)))))
    have hl : Lim ⟨kind, n, at_, name, bv, fv, pv, b, fs, pl⟩ := ⟨by show b.length ≤ 3000; omega, by show fs.length ≤ 60; omega⟩
    by_cases h3 : 300 < pl.length
    · simp (disch := omega) [q0, q1, q2, q3, q4, q5, q6]
      exact HT _ (eg.trans (by repeat' (first | (with_reducible exact Ext.refl _) | (with_reducible assumption) | (with_reducible refine push_ext ?_) | (with_reducible refine hset_ext ?_ ?_) | (with_reducible refine Ext.trans ?_ (by assumption)) | omega | (simp; done) | (simp; omega) | (refine Ext.size ?_) | (refine Nat.le_succ_of_le (Ext.size ?_)))))
    by_cases h4 : kind = 3
    · subst h4
      by_cases h5 : 20000 < at_
      · by_cases h6 : at_ ≤ 268435456
        · simp (disch := omega) [q0, q1, q2, q3, q4, q5, q6, h5, h6]
          exact HT _ (eg.trans (by repeat' (first | (with_reducible exact Ext.refl _) | (with_reducible assumption) | (with_reducible refine push_ext ?_) | (with_reducible refine hset_ext ?_ ?_) | (with_reducible refine Ext.trans ?_ (by assumption)) | omega | (simp; done) | (simp; omega) | (refine Ext.size ?_) | (refine Nat.le_succ_of_le (Ext.size ?_)))))
        · simp (disch := omega) [q0, q1, q2, q3, q4, q5, q6, h5, h6]
          exact hX (i + 1) _ _ (by simp) ⟨hin, eg.trans (by repeat' (first | (with_reducible exact Ext.refl _) | (with_reducible assumption) | (with_reducible refine push_ext ?_) | (with_reducible refine hset_ext ?_ ?_) | (with_reducible refine Ext.trans ?_ (by assumption)) | omega | (simp; done) | (simp; omega) | (refine Ext.size ?_) | (refine Nat.le_succ_of_le (Ext.size ?_)))), nx hl⟩ (by omega)
      · simp (disch := omega) [q0, q1, q2, q3, q4, q5, q6, h5]
        exact hX (i + 1) _ _ (by simp) ⟨hin, eg.trans (by repeat' (first | (with_reducible exact Ext.refl _) | (with_reducible assumption) | (with_reducible refine push_ext ?_) | (with_reducible refine hset_ext ?_ ?_) | (with_reducible refine Ext.trans ?_ (by assumption)) | omega | (simp; done) | (simp; omega) | (refine Ext.size ?_) | (refine Nat.le_succ_of_le (Ext.size ?_)))), nx hl⟩ (by omega)
    by_cases h4' : kind = 5
    · subst h4'
      by_cases h5 : 20000 < n
      · by_cases h6 : n ≤ 268435456
        · simp (disch := omega) [q0, q1, q2, q3, q4, q5, q6, h5, h6]
          exact HT _ (eg.trans (by repeat' (first | (with_reducible exact Ext.refl _) | (with_reducible assumption) | (with_reducible refine push_ext ?_) | (with_reducible refine hset_ext ?_ ?_) | (with_reducible refine Ext.trans ?_ (by assumption)) | omega | (simp; done) | (simp; omega) | (refine Ext.size ?_) | (refine Nat.le_succ_of_le (Ext.size ?_)))))
        · simp (disch := omega) [q0, q1, q2, q3, q4, q5, q6, h5, h6]
          exact hX (i + 1) _ _ (by simp) ⟨hin, eg.trans (by repeat' (first | (with_reducible exact Ext.refl _) | (with_reducible assumption) | (with_reducible refine push_ext ?_) | (with_reducible refine hset_ext ?_ ?_) | (with_reducible refine Ext.trans ?_ (by assumption)) | omega | (simp; done) | (simp; omega) | (refine Ext.size ?_) | (refine Nat.le_succ_of_le (Ext.size ?_)))), nx hl⟩ (by omega)
      · simp (disch := omega) [q0, q1, q2, q3, q4, q5, q6, h5]
        exact hX (i + 1) _ _ (by simp) ⟨hin, eg.trans (by repeat' (first | (with_reducible exact Ext.refl _) | (with_reducible assumption) | (with_reducible refine push_ext ?_) | (with_reducible refine hset_ext ?_ ?_) | (with_reducible refine Ext.trans ?_ (by assumption)) | omega | (simp; done) | (simp; omega) | (refine Ext.size ?_) | (refine Nat.le_succ_of_le (Ext.size ?_)))), nx hl⟩ (by omega)
    simp (disch := omega) [q0, q1, q2, q3, q4, q5, q6, h4, h4']
    exact hX (i + 1) _ _ (by simp) ⟨hin, eg.trans (by repeat' (first | (with_reducible exact Ext.refl _) | (with_reducible assumption) | (with_reducible refine push_ext ?_) | (with_reducible refine hset_ext ?_ ?_) | (with_reducible refine Ext.trans ?_ (by assumption)) | omega | (simp; done) | (simp; omega) | (refine Ext.size ?_) | (refine Nat.le_succ_of_le (Ext.size ?_)))), nx hl⟩ (by omega)
  · obtain rfl : i = xs.length := by omega
    simp (disch := omega)
    refine HF _ eg (by omega) (fun x hx => ?_)
    obtain ⟨j, hj, rfl⟩ := List.getElem_of_mem hx
    exact hr j hj hj
end Go.Proofs.Ytdmcaaojapcbcaa
set_option linter.unusedSimpArgs false
set_option linter.unusedVariables false
namespace Go.Proofs.Ytdmcaaojapcbcaa
open Go.Vc
variable {K : Value → Heap → Prop} {h : Heap}

/-- A store in the midst of a script; all of its blocks came since o. -/
structure PI (o h : Heap) (p : Nat) (s : St) (n m : Nat) (c : Bool) : Prop where
  st : StAt h p s
  ext : Ext o h
  foot : ∀ b, s.foot p b → o.size ≤ b
  steps : s.steps ≤ n
  fat : s.fates.length ≤ m
  nil : c = true → s.fates = []
theorem PI.up {o h' : Heap} {p : Nat} {s s' : St} {n m n' m' : Nat} {c : Bool} (I : PI o h p s n m c) (u : SUpd h h' p s s') (h1 : s'.steps ≤ n') (h2 : s'.fates.length ≤ m') (h3 : c = true → s'.fates = []) : PI o h' p s' n' m' c :=
  ⟨u.st, u.mod.ext_from I.ext (fun b hb e => by have := I.foot b e; omega), fun b hb => (u.foot b hb).elim (I.foot b) (fun e => by have := I.ext.size; omega), h1, h2, h3⟩
theorem PI.of_ext {o h' : Heap} {p : Nat} {s : St} {n m n' m' : Nat} {c : Bool} (I : PI o h p s n m c) (e : Ext h h') (h1 : n ≤ n') (h2 : m ≤ m') : PI o h' p s n' m' c :=
  ⟨I.st.ext e, I.ext.trans e, I.foot, Nat.le_trans I.steps h1, Nat.le_trans I.fat h2, I.nil⟩
theorem tail_nil {c : Bool} {l : List (Int × Int)} (h : c = true → l = []) : c = true → l.tail = [] := fun e => by rw [h e]; rfl
theorem tail_len {l : List (Int × Int)} {m : Nat} (h : l.length ≤ m) : l.tail.length ≤ m := by rw [List.length_tail]; omega

set_option maxHeartbeats 8000000 in
theorem play_c {v w : Value} {fs : List (Int × Int)} {xs : List Stp} (c : Bool) (hf : Fas h v fs) (hr : fs.all rightF = true) (hfl : fs.length ≤ 100) (s : Sps h w xs) (hx : xs.length ≤ 120) (hl : ∀ x ∈ xs, Lim x) (hc : c = true → fs = [] ∧ ∀ x ∈ xs, x.kind ≠ 7)
    (H : ∀ h' p s, PI h h' p s 120 8000 c → K (ptrV p) h') : CallsH Try.prog 22 #[v, w] h K ⟨⟩ := by
  refine n22_calls ?_
  unfold n22
  obtain ⟨a0, cc, rfl⟩ := s.form
  refine New_c hf (by omega) (fun h1 e1 hn => by rw [hr] at hn; cases hn) (fun h1 p t e1 _ tF tf ts hp hft ht => ?_)
  simp (disch := omega)
  refine loopX1 (α := Nat × St) (fun a => .int .i64 a.1) (fun a g => a.1 ≤ xs.length ∧ PI h g p a.2 a.1 (100 + 60 * a.1) c) (fun a => xs.length - a.1) (0, t) rfl ⟨Nat.zero_le _, ht, e1, hft, by rw [ts]; exact Nat.le_refl _, by rw [tf]; dsimp only; omega, fun e => by rw [tf]; exact (hc e).1⟩ ?_
  rintro ⟨i, s'⟩ g ⟨hi, I⟩ X hX
  dsimp only at hi I hX ⊢
  by_cases hin : i < xs.length
  · obtain ⟨ad, c', hv, q0, q1, q2, q3, q4, q5, q6⟩ := (s.ext I.ext).cell hin
    cases hv
    have hxm := List.getElem_mem hin
    have ok := s.ok _ hxm
    have lim := hl _ hxm
    have hc7 := fun e => (hc e).2 _ hxm
    obtain ⟨bo, bc, hbv⟩ := ok.b.form
    obtain ⟨fo, fc, hfv, -⟩ := ok.fs.form
    obtain ⟨po, pc, hpv, -⟩ := ok.pl.form
    rw [hbv] at q4
    rw [hfv] at q5
    rw [hpv] at q6
    generalize hx : xs[i] = x at *
    have st0 := I.st.stp
    have stn := I.steps
    have stf := I.fat
    simp (disch := omega)
    refine JoinN.mk ?_
    refine JoinN.mk ?_
    simp (disch := omega) [q0, q1, q2, q3, q4, q5, q6]
    refine (⟨_, rfl⟩ : ∃ f, f = hset (hset (hset (hset (hset (hset (hset (g.push (.cells #[.int .i64 0, .int .i64 0, .int .i64 0, str [], .slice none 0 0, .slice none 0 0, .slice none 0 0] 61)) ⟨g.size, 0, none⟩ (.int .i64 x.kind)) ⟨g.size, 1, none⟩ (.int .i64 x.n)) ⟨g.size, 2, none⟩ (.int .i64 x.at_)) ⟨g.size, 3, none⟩ (str x.name)) ⟨g.size, 4, none⟩ (.slice bo x.b.length bc)) ⟨g.size, 5, none⟩ (.slice fo x.fs.length fc)) ⟨g.size, 6, none⟩ (.slice po x.pl.length pc)).elim fun g0 eg0 => ?_
    have E0 : Ext g g0 := by rw [eg0]; exact (by repeat' (first | (with_reducible exact Ext.refl _) | (with_reducible assumption) | (with_reducible refine push_ext ?_) | (with_reducible refine hset_ext ?_ ?_) | (with_reducible refine Ext.trans ?_ (by assumption)) | omega | (simp; done) | (simp; omega) | (refine Ext.size ?_) | (refine Nat.le_succ_of_le (Ext.size ?_))))
    have cP : g0[g.size]? = some (.cells #[.int .i64 x.kind, .int .i64 x.n, .int .i64 x.at_, str x.name, .slice bo x.b.length bc, .slice fo x.fs.length fc, .slice po x.pl.length pc] 61) := by
      rw [eg0]
      exact obj_set (obj_set (obj_set (obj_set (obj_set (obj_set (obj_set (get_pushed rfl)))))))
    rw [← eg0]
    clear eg0
    have I0 := I.of_ext E0 (Nat.le_refl _) (Nat.le_refl _)
    have k0 := cellOf (i := 0) cP rfl
    have k1 := cellOf (i := 1) cP rfl
    have k2 := cellOf (i := 2) cP rfl
    have k3 := cellOf (i := 3) cP rfl
    have k4 := cellOf (i := 4) cP rfl
    have k5 := cellOf (i := 5) cP rfl
    have hB : Bytes g0 (.slice bo x.b.length bc) x.b := by have := ok.b.ext I0.ext; rw [hbv] at this; exact this
    have hFa : Fas g0 (.slice fo x.fs.length fc) x.fs := by have := ok.fs.ext I0.ext; rw [hfv] at this; exact this
    have l1 := lim.1
    have l2 := lim.2
    have hnf : x.b ≠ [] → ∀ d, blkV (.slice bo x.b.length bc) = some d → ¬ s'.foot p d := fun hne d hd e => by
      have h1 := ok.b.lt (b := d) (by rw [hbv]; exact hd) hne
      have h2 := I.foot d e
      omega
    have o1 := ok.n
    have o2 := ok.at_
    have o3 := ok.name
    unfold i64 at o1 o2
    refine JoinN_in0 (fun g' => ∃ s2, PI h g' p s2 (i + 1) (100 + 60 * (i + 1)) c) (fun kk hkk => ?_) (fun g' hg' => ?_)
    · have idle : ∀ g', Ext g0 g' → kk g' := fun g' e => hkk g' ⟨s', I0.of_ext e (by omega) (by omega)⟩
      have step1 : ∀ g' fv, SUpd g0 g' p s' (s'.stepped fv) → kk g' := fun g' fv u => hkk g' ⟨_, I0.up u (by show s'.steps + 1 ≤ _; omega) (tail_len (by omega)) (tail_nil I.nil)⟩
      have step2 : ∀ g' fv F, SUpd g0 g' p s' { s'.stepped fv with F := F } → kk g' := fun g' fv F u => hkk g' ⟨_, I0.up u (by show s'.steps + 1 ≤ _; omega) (tail_len (by omega)) (tail_nil I.nil)⟩
      by_cases h1 : x.kind = 1
      · simp (disch := omega) [h1, k3]
        refine Create_c I0.st o3 (by omega) (fun h' e _ => ?_) (fun h' fv _ _ u => ?_) (fun h' fv b _ _ _ _ u => ?_)
        · exact idle _ e
        · exact step1 _ _ u
        · exact step2 _ _ _ u
      by_cases h2 : x.kind = 2
      · simp (disch := omega) [h2, k3]
        refine Remove_c I0.st o3 (by omega) (fun h' e _ => ?_) (fun h' fv _ _ u => ?_) (fun h' A B y fv _ _ _ u => ?_)
        · exact idle _ e
        · exact step1 _ _ u
        · exact step2 _ _ _ u
      by_cases h3 : x.kind = 3
      · simp (disch := omega) [h3, k2, k3, k4]
        refine Write_c I0.st o3 hB (by omega) hnf o2.1 o2.2 (by omega) (fun h' e _ => ?_) (fun h' A B y y' fv _ _ _ _ _ _ u => ?_)
        · exact idle _ e
        · exact step2 _ _ _ u
      by_cases h4 : x.kind = 4
      · simp (disch := omega) [h4, k3]
        refine Flush_c I0.st o3 (by omega) (fun h' e _ => ?_) (fun h' A B y y' fv _ _ _ _ u => ?_)
        · exact idle _ e
        · exact step2 _ _ _ u
      by_cases h5 : x.kind = 5
      · simp (disch := omega) [h5, k1, k3]
        refine Resize_c I0.st o3 (by omega) o1.1 o1.2 (fun h' e _ => ?_) (fun h' fv _ u => ?_) (fun h' A B y y' fv _ _ _ _ _ _ _ u => ?_)
        · exact idle _ e
        · exact step1 _ _ u
        · exact step2 _ _ _ u
      by_cases h7 : x.kind = 7
      · simp (disch := omega) [h7, k5]
        refine Feed_c I0.st hFa (by omega) (fun h' e _ => ?_) (fun h' fv _ u => ?_)
        · exact idle _ e
        · refine hkk _ ⟨_, I0.up u (by show s'.steps ≤ _; omega) ?_ (fun e => absurd h7 (hc7 e))⟩
          show (s'.fates ++ x.fs).length ≤ _
          rw [List.length_append]; omega
      simp (disch := omega) [h1, h2, h3, h4, h5, h7]
      exact idle _ (.refl _)
    · obtain ⟨s2, I2⟩ := hg'
      simp (disch := omega)
      exact hX (i + 1, s2) _ _ (by simp) ⟨hin, I2⟩ (by dsimp only; omega)
  · obtain rfl : i = xs.length := by omega
    simp (disch := omega)
    exact H _ p s' (I.of_ext (.refl _) (by omega) (by omega))
end Go.Proofs.Ytdmcaaojapcbcaa
