/- Later: the document's runs less one. Later: the document's runs and one more. Later: the document's queue; runs put. Later: the document's queue; a run cut, the first, the longest, how much waits. Later: the document's queue; the first run, the longest run. -/
import Derived.Test.YtgcllbelgakjgaaLatE
set_option linter.unusedSimpArgs false
set_option linter.unusedVariables false
namespace Go.Proofs.Ytgcllbelgakjgaa
open Go.Vc Go.Sort
variable {K : Value → Heap → Prop} {h : Heap}

theorem lessR_len2 (X : Rn) : ∀ M : List Rn, (lessR X M).length ≤ 2 * M.length
  | [] => by simp [lessR]
  | y :: M => by
    have ih := lessR_len2 X M
    have e : lessR X (y :: M) = lessO X y ++ lessR X M := by unfold lessR; rw [List.flatMap_cons]
    have : (lessO X y).length ≤ 2 := by
      unfold lessO
      rw [List.length_append]
      have : ∀ (p : Prop) [Decidable p] (z : Rn), (if p then [z] else []).length ≤ 1 := fun p _ z => by split <;> simp
      have h1 := this (y.at_ < min y.en X.at_) ⟨y.at_, min y.en X.at_ - y.at_⟩
      have h2 := this (max y.at_ X.en < y.en) ⟨max y.at_ X.en, y.en - max y.at_ X.en⟩
      omega
    rw [e, List.length_append, List.length_cons]; omega
set_option maxHeartbeats 2000000 in
theorem rLess_c {v : Value} {L : List Rn} {X : Rn} (rv : Rns h v L) (hfL : Fit L) (hl : L.length < 400000) (m3 : X.at_ ≤ 72057594037927936) (m4 : X.en ≤ 72057594037927936)
    (H : ∀ w h', OwnT runT 2 h' w ((lessR X L).flatMap (cell2 rnP)) → Ext h h' → (∀ b, blkV w = some b → h.size ≤ b) → K w h') : CallsH Try.prog 63 #[v, rwA (rnP X)] h K ⟨⟩ := by
  refine n63_calls ?_
  unfold n63 rwA rnP
  simp (disch := omega)
  refine (⟨_, rfl⟩ : ∃ f, f = h.push (.cells #[.int .i64 (X.at_ : Nat), .int .i64 (X.len : Nat)] runT)).elim fun h3 eg => ?_
  have e0 : Ext h h3 := by rw [eg]; exact (by repeat' (first | (with_reducible exact Ext.refl _) | (with_reducible assumption) | (with_reducible refine push_ext ?_) | (with_reducible refine hset_ext ?_ ?_) | (with_reducible refine Ext.trans ?_ (by assumption)) | omega | (simp; done) | (simp; omega) | (refine Ext.size ?_) | (refine Nat.le_succ_of_le (Ext.size ?_))))
  have q0 : h3[h.size]? = some (.cells #[.int .i64 (X.at_ : Nat), .int .i64 (X.len : Nat)] runT) := by rw [eg]; exact get_pushed rfl
  rw [show h.push (.cells #[.int .i64 (X.at_ : Nat), .int .i64 (X.len : Nat)] 24) = h3 from eg.symm]
  clear eg
  have z0 := cellOf (i := 0) q0 rfl
  have z1 := cellOf (i := 1) q0 rfl
  have r3 := rv.ext e0
  obtain ⟨va, vc, rfl, hvc⟩ := Rns.form rv
  have hsz : h.size < h3.size := get_some_lt q0
  refine loopX2 (α := Nat × Value) (fun a => a.2) (fun a => .int .i64 a.1) (fun a' g => a'.1 ≤ L.length ∧ Ext h3 g ∧ OwnT runT 2 g a'.2 ((lessR X (L.take a'.1)).flatMap (cell2 rnP)) ∧ ∀ b, blkV a'.2 = some b → h3.size ≤ b) (fun a => L.length - a.1) (0, .slice none 0 0) ⟨rfl, rfl⟩ ⟨by simp, .refl _, by simpa [lessR] using OwnT.nil, (fun b hb => by cases hb)⟩ ?_
  rintro ⟨i, w⟩ g4 ⟨hi, e4, o4, f4⟩ Y hY
  dsimp only at hi e4 o4 f4 hY ⊢
  by_cases hin : i < L.length
  · obtain ⟨ad, c', hv', -, c0, c1⟩ := Rns.cell (Rws.ext r3 e4) hin
    obtain ⟨rfl, -⟩ : va = some ad ∧ vc = c' := by cases hv'; exact ⟨rfl, rfl⟩
    have htk : lessR X (L.take (i + 1)) = lessR X (L.take i) ++ lessO X L[i] := by
      rw [List.take_succ_eq_append_getElem hin]
      unfold lessR
      rw [List.flatMap_append]; simp
    have hfy := hfL _ (List.getElem_mem hin)
    have hlw : (lessR X (L.take i)).length ≤ 2 * i := by
      have := lessR_len2 X (L.take i)
      simp at this; omega
    generalize L[i] = y at *
    generalize lessR X (L.take i) = acc at *
    have zz := e4.size
    have w0 := hcell_ext e4 z0
    have w1 := hcell_ext e4 z1
    unfold Rn.en at hfy m4
    simp (disch := omega)
    refine JoinN.mk ?_
    refine JoinN.mk ?_
    simp (disch := omega) [c0, c1]
    refine (⟨_, rfl⟩ : ∃ f, f = hset (hset (Array.push g4 (.cells #[.int .i64 0, .int .i64 0] runT)) ⟨g4.size, 0, none⟩ (.int .i64 (y.at_ : Nat))) ⟨g4.size, 1, none⟩ (.int .i64 (y.len : Nat))).elim fun gy egy => ?_
    have ey : Ext g4 gy := by rw [egy]; exact (by repeat' (first | (with_reducible exact Ext.refl _) | (with_reducible assumption) | (with_reducible refine push_ext ?_) | (with_reducible refine hset_ext ?_ ?_) | (with_reducible refine Ext.trans ?_ (by assumption)) | omega | (simp; done) | (simp; omega) | (refine Ext.size ?_) | (refine Nat.le_succ_of_le (Ext.size ?_))))
    have zy : gy.size = g4.size + 1 := by rw [egy]; simp
    have by_ : gy[g4.size]? = some (.cells #[.int .i64 (y.at_ : Nat), .int .i64 (y.len : Nat)] runT) := by
      rw [egy]
      refine (obj_set (obj_set (get_pushed rfl))).trans ?_
      simp
    rw [show hset (hset (Array.push g4 (.cells #[.int .i64 0, .int .i64 0] 24)) ⟨g4.size, 0, none⟩ (.int .i64 (y.at_ : Nat))) ⟨g4.size, 1, none⟩ (.int .i64 (y.len : Nat)) = gy from egy.symm]
    clear egy
    have wlt : ∀ b, blkV w = some b → b < g4.size := fun b hb => o4.lt hb
    unfold lessO Rn.en at htk
    rw [← List.append_assoc] at htk
    refine JoinN_in1 (fun w' g5 => OwnT runT 2 g5 w' ((acc ++ (if y.at_ < min (y.at_ + y.len) X.at_ then [(⟨y.at_, min (y.at_ + y.len) X.at_ - y.at_⟩ : Rn)] else [])).flatMap (cell2 rnP)) ∧ Ext h3 g5 ∧ g5[g4.size]? = some (.cells #[.int .i64 (y.at_ : Nat), .int .i64 (y.len : Nat)] runT) ∧ gy.size ≤ g5.size ∧ ∀ b, blkV w' = some b → h3.size ≤ b) (fun kk hkk => ?_) (fun w' g5 hw => ?_)
    · have d0 := cellOf (i := 0) by_ rfl
      have d1 := cellOf (i := 1) by_ rfl
      have v0 := hcell_ext ey w0
      by_cases k1 : y.at_ < min (y.at_ + y.len) X.at_
      · rw [if_pos k1] at hkk
        simp (disch := omega) [d0, d1, v0, Hp_min2]
        have hmn : ((if (X.at_ : Int) < (y.at_ : Int) + (y.len : Int) then (X.at_ : Int) else (y.at_ : Int) + (y.len : Int)) - (y.at_ : Int)) = ((min (y.at_ + y.len) X.at_ - y.at_ : Nat) : Int) := by split <;> omega
        rw [hmn]
        refine Hp_appR (L := acc) (x := ⟨y.at_, min (y.at_ + y.len) X.at_ - y.at_⟩) rfl (o4.ext ey) (by omega) fun v5 h5 o5 m5 f5 => ?_
        refine hkk _ _ ⟨o5, m5.ext_from (e4.trans ey) (fun b hb e => by have := f4 b e; omega), (m5.block _ (get_some_lt by_) (fun e => by have := wlt _ e; omega)).trans by_, m5.size, fun b hb => (f5 b hb).elim (f4 b) (fun e => by omega)⟩
      · rw [if_neg k1, List.append_nil] at hkk
        simp (disch := omega) [d0, d1, v0, Hp_min2]
        exact hkk _ _ ⟨o4.ext ey, e4.trans ey, by_, Nat.le_refl _, f4⟩
    · obtain ⟨o5, e5, b5, s5, f5⟩ := hw
      have d0 := cellOf (i := 0) b5 rfl
      have d1 := cellOf (i := 1) b5 rfl
      have v0 := hcell_ext e5 z0
      have v1 := hcell_ext e5 z1
      have hl5 : (acc ++ (if y.at_ < min (y.at_ + y.len) X.at_ then [(⟨y.at_, min (y.at_ + y.len) X.at_ - y.at_⟩ : Rn)] else [])).length < 1000000 := by
        rw [List.length_append]
        have : (if y.at_ < min (y.at_ + y.len) X.at_ then [(⟨y.at_, min (y.at_ + y.len) X.at_ - y.at_⟩ : Rn)] else []).length ≤ 1 := by split <;> simp
        omega
      generalize acc ++ (if y.at_ < min (y.at_ + y.len) X.at_ then [(⟨y.at_, min (y.at_ + y.len) X.at_ - y.at_⟩ : Rn)] else []) = acc5 at *
      have hmx : (if (y.at_ : Int) < (X.at_ : Int) + (X.len : Int) then (X.at_ : Int) + (X.len : Int) else (y.at_ : Int)) = ((max y.at_ (X.at_ + X.len) : Nat) : Int) := by split <;> omega
      simp (disch := omega) [d0, d1, v0, v1, Hp_max2]
      rw [hmx]
      by_cases k2 : max y.at_ (X.at_ + X.len) < y.at_ + y.len
      · rw [if_pos k2] at htk
        simp (disch := omega) [d0, d1]
        rw [show ((y.at_ : Int) + (y.len : Int) - ((max y.at_ (X.at_ + X.len) : Nat) : Int)) = ((y.at_ + y.len - max y.at_ (X.at_ + X.len) : Nat) : Int) by omega]
        refine Hp_appR (L := acc5) (x := ⟨max y.at_ (X.at_ + X.len), y.at_ + y.len - max y.at_ (X.at_ + X.len)⟩) rfl o5 hl5 fun v6 h6 o6 m6 f6 => ?_
        simp (disch := omega)
        refine hY (i + 1, v6) _ _ _ rfl (by simp) ⟨hin, m6.ext_from e5 (fun b hb e => by have := f5 b e; omega), by dsimp only; rw [htk]; exact o6, fun b hb => (f6 b hb).elim (f5 b) (fun e => by have := e5.size; omega)⟩ (by dsimp only; omega)
      · rw [if_neg k2, List.append_nil] at htk
        simp (disch := omega) [d0, d1]
        exact hY (i + 1, w') _ _ _ rfl (by simp) ⟨hin, e5, by dsimp only; rw [htk]; exact o5, f5⟩ (by dsimp only; omega)
  · obtain rfl : i = L.length := by omega
    rw [List.take_length] at o4
    simp (disch := omega)
    exact H _ _ o4 (e0.trans e4) fun b hb => by have := f4 b hb; omega
end Go.Proofs.Ytgcllbelgakjgaa
set_option linter.unusedSimpArgs false
set_option linter.unusedVariables false
namespace Go.Proofs.Ytgcllbelgakjgaa
open Go.Vc Go.Sort
variable {K : Value → Heap → Prop} {h : Heap}

def fitR (x : Rn) : Prop := x.at_ ≤ 72057594037927936 ∧ x.en ≤ 72057594037927936
theorem withStep_fit {s : List Rn × Rn} {y : Rn} (hs : fitR s.2) (hy : fitR y) : fitR (withStep s y).2 := by
  unfold withStep
  split
  · split <;> exact hs
  · unfold mergeR fitR Rn.en at *
    dsimp only; omega
theorem withStep_len (s : List Rn × Rn) (y : Rn) : (withStep s y).1.length ≤ s.1.length + 2 := by
  unfold withStep
  split
  · split <;> simp
  · simp
theorem with_inv {X : Rn} (hX : fitR X) : ∀ L : List Rn, Fit L → ∀ s : List Rn × Rn, fitR s.2 → fitR (L.foldl withStep s).2 ∧ (L.foldl withStep s).1.length ≤ s.1.length + 2 * L.length
  | [], _, s, hs => ⟨hs, by simp⟩
  | y :: L, hf, s, hs => by
    have h1 := with_inv hX L (fun z hz => hf z (List.mem_cons_of_mem _ hz)) (withStep s y) (withStep_fit hs (hf y (by simp)))
    have h2 := withStep_len s y
    refine ⟨h1.1, ?_⟩
    have := h1.2
    simp only [List.foldl_cons, List.length_cons]
    omega
/-- The place of the last one of an own list. -/
theorem own_last {A : List Rn} {z : Rn} {b c : Nat} {g : Heap} (o : OwnT runT 2 g (.slice (some ⟨b, 0, none⟩) (A ++ [z]).length c) ((A ++ [z]).flatMap (cell2 rnP))) : hcell g ⟨b, A.length * 2, none⟩ = some (.int .i64 (z.at_ : Nat)) := by
  have d := cell2_get (pq := rnP) (A ++ [z]) A.length (by simp)
  have hcl := cell2_len (pq := rnP) (A ++ [z])
  have hal : (A ++ [z]).length = A.length + 1 := by simp
  have d0 := o.cell (i := A.length * 2) (by omega)
  rw [List.getElem?_eq_getElem (by omega)] at d
  rw [Option.some.inj d.1] at d0
  rw [show (A ++ [z])[A.length]'(by simp) = z by simp] at d0
  exact d0.1

set_option maxHeartbeats 4000000 in
theorem rWith_c {v : Value} {L : List Rn} {X : Rn} (rv : Rns h v L) (hfL : Fit L) (hl : L.length < 400000) (hX : fitR X)
    (H : ∀ w h', OwnT runT 2 h' w ((withEnd (L.foldl withStep ([], X))).flatMap (cell2 rnP)) → Ext h h' → (∀ b, blkV w = some b → h.size ≤ b) → K w h') : CallsH Try.prog 46 #[v, rwA (rnP X)] h K ⟨⟩ := by
  refine n46_calls ?_
  unfold n46 rwA rnP
  simp (disch := omega)
  refine (⟨_, rfl⟩ : ∃ f, f = h.push (.cells #[.int .i64 (X.at_ : Nat), .int .i64 (X.len : Nat)] runT)).elim fun h3 eg => ?_
  have e0 : Ext h h3 := by rw [eg]; exact (by repeat' (first | (with_reducible exact Ext.refl _) | (with_reducible assumption) | (with_reducible refine push_ext ?_) | (with_reducible refine hset_ext ?_ ?_) | (with_reducible refine Ext.trans ?_ (by assumption)) | omega | (simp; done) | (simp; omega) | (refine Ext.size ?_) | (refine Nat.le_succ_of_le (Ext.size ?_))))
  have q0 : h3[h.size]? = some (.cells #[.int .i64 (X.at_ : Nat), .int .i64 (X.len : Nat)] runT) := by rw [eg]; exact get_pushed rfl
  rw [show h.push (.cells #[.int .i64 (X.at_ : Nat), .int .i64 (X.len : Nat)] 24) = h3 from eg.symm]
  clear eg
  obtain ⟨va, vc, rfl, hvc⟩ := Rns.form rv
  have hsz : h.size < h3.size := get_some_lt q0
  refine loopX2 (α := Nat × Value) (fun a => a.2) (fun a => .int .i64 a.1) (fun a' g => a'.1 ≤ L.length ∧ Ext h g ∧ h3.size ≤ g.size ∧ OwnT runT 2 g a'.2 (((L.take a'.1).foldl withStep ([], X)).1.flatMap (cell2 rnP)) ∧ g[h.size]? = some (.cells #[.int .i64 (((L.take a'.1).foldl withStep ([], X)).2.at_ : Nat), .int .i64 (((L.take a'.1).foldl withStep ([], X)).2.len : Nat)] runT) ∧ ∀ b, blkV a'.2 = some b → h.size < b) (fun a => L.length - a.1) (0, .slice none 0 0) ⟨rfl, rfl⟩ ⟨by simp, e0, Nat.le_refl _, by simpa using OwnT.nil, by simpa using q0, (fun b hb => by cases hb)⟩ ?_
  rintro ⟨i, w⟩ g4 ⟨hi, e4, s4, o4, q4, f4⟩ Y hY
  dsimp only at hi e4 s4 o4 q4 f4 hY ⊢
  have inv := with_inv hX (L.take i) (fun z hz => hfL z (List.mem_of_mem_take hz)) ([], X) hX
  simp only [List.length_nil, List.length_take] at inv
  have w0 := cellOf (i := 0) q4 rfl
  have w1 := cellOf (i := 1) q4 rfl
  by_cases hin : i < L.length
  · obtain ⟨ad, c', hv', -, c0, c1⟩ := Rns.cell (Rws.ext rv e4) hin
    obtain ⟨rfl, -⟩ : va = some ad ∧ vc = c' := by cases hv'; exact ⟨rfl, rfl⟩
    have htk : (L.take (i + 1)).foldl withStep ([], X) = withStep ((L.take i).foldl withStep ([], X)) L[i] := by
      rw [List.take_succ_eq_append_getElem hin, List.foldl_append]; rfl
    have hfy := hfL _ (List.getElem_mem hin)
    generalize L[i] = y at *
    generalize (L.take i).foldl withStep ([], X) = st at *
    obtain ⟨acc, x⟩ := st
    dsimp only at *
    unfold fitR at inv
    unfold Rn.en at hfy inv
    obtain ⟨⟨in1, in2⟩, in3⟩ := inv
    simp (disch := omega)
    refine JoinN.mk ?_
    refine JoinN.mk ?_
    simp (disch := omega) [c0, c1]
    refine (⟨_, rfl⟩ : ∃ f, f = hset (hset (Array.push g4 (.cells #[.int .i64 0, .int .i64 0] runT)) ⟨g4.size, 0, none⟩ (.int .i64 (y.at_ : Nat))) ⟨g4.size, 1, none⟩ (.int .i64 (y.len : Nat))).elim fun gy egy => ?_
    have ey : Ext g4 gy := by rw [egy]; exact (by repeat' (first | (with_reducible exact Ext.refl _) | (with_reducible assumption) | (with_reducible refine push_ext ?_) | (with_reducible refine hset_ext ?_ ?_) | (with_reducible refine Ext.trans ?_ (by assumption)) | omega | (simp; done) | (simp; omega) | (refine Ext.size ?_) | (refine Nat.le_succ_of_le (Ext.size ?_))))
    have zy : gy.size = g4.size + 1 := by rw [egy]; simp
    have by_ : gy[g4.size]? = some (.cells #[.int .i64 (y.at_ : Nat), .int .i64 (y.len : Nat)] runT) := by
      rw [egy]
      refine (obj_set (obj_set (get_pushed rfl))).trans ?_
      simp
    rw [show hset (hset (Array.push g4 (.cells #[.int .i64 0, .int .i64 0] 24)) ⟨g4.size, 0, none⟩ (.int .i64 (y.at_ : Nat))) ⟨g4.size, 1, none⟩ (.int .i64 (y.len : Nat)) = gy from egy.symm]
    clear egy
    have wlt : ∀ b, blkV w = some b → b < g4.size := fun b hb => o4.lt hb
    have d0 := cellOf (i := 0) by_ rfl
    have d1 := cellOf (i := 1) by_ rfl
    have v0 := hcell_ext ey w0
    have v1 := hcell_ext ey w1
    have oy := o4.ext ey
    have qy := (ey.block _ (get_some_lt q4)).trans q4
    unfold withStep at htk
    dsimp only at htk
    -- y put behind a list
    have put : ∀ (acc' : List Rn) (w' : Value) (g' : Heap), acc'.length < 999999 → (L.take (i + 1)).foldl withStep ([], X) = (acc' ++ [y], x) → OwnT runT 2 g' w' (acc'.flatMap (cell2 rnP)) → Ext h g' → g'[h.size]? = some (.cells #[.int .i64 (x.at_ : Nat), .int .i64 (x.len : Nat)] runT) → g'[g4.size]? = some (.cells #[.int .i64 (y.at_ : Nat), .int .i64 (y.len : Nat)] runT) → h3.size ≤ g'.size → (∀ b, blkV w' = some b → h.size < b) →
        Hp Try.prog false (Go.Builtin.append_ #[22, 22] 22 #[w', .slice (some ⟨g'.size, 0, none⟩) 1 1]) (fun t h5 => Hp Try.prog false (binS .add 3 (.tmp 14) (.const (.int .i64 1)) (.int .i64 i) (.int .i64 1)) (fun t15 h_64 => Y t t15 h_64) h5 ⟨⟩) (g'.push (.cells #[.int .i64 (y.at_ : Nat), .int .i64 (y.len : Nat)] runT)) ⟨⟩ := by
      intro acc' w' g' hl' ht o' e' q' b' z' f'
      refine Hp_appR (L := acc') (x := y) rfl o' (by omega) fun v5 h5 o5 m5 f5 => ?_
      simp (disch := omega)
      refine hY (i + 1, v5) _ _ _ rfl (by simp) ⟨hin, m5.ext_from e' (fun b hb e => by have := f' b e; omega), Nat.le_trans z' m5.size, ?_, ?_, fun b hb => (f5 b hb).elim (f' b) (fun e => by omega)⟩ (by dsimp only; omega)
      · dsimp only; rw [ht]; exact o5
      · dsimp only; rw [ht]
        exact (m5.block _ (get_some_lt q') (fun e => by have := f' _ e; omega)).trans q'
    by_cases k1 : y.at_ + y.len < x.at_
    · simp (disch := omega) [d0, d1, v0, v1, w0, w1]
      refine JoinN.mk ?_
      have hlx : ¬ (x.at_ < y.at_) := by omega
      rw [if_pos (show y.en < x.at_ ∨ x.en < y.at_ from .inl k1), if_neg (show ¬ (x.at_ < y.at_ ∧ lastLt acc x = true) from fun e => hlx e.1)] at htk
      simp (disch := omega) [d0, d1, v0, v1, w0, w1]
      exact put acc w gy (by omega) htk oy (e4.trans ey) qy by_ (by omega) f4
    · by_cases k2 : x.at_ + x.len < y.at_
      · have hxy : x.at_ < y.at_ := by omega
        rw [if_pos (show y.en < x.at_ ∨ x.en < y.at_ from .inr k2)] at htk
        obtain ⟨wa, wn, wc, rfl, -, -, -⟩ := oy.form (by omega)
        obtain ⟨rfl, hwc, hwne⟩ := own_len (v := .pointer none) oy
        have both : lastLt acc x = true → Hp Try.prog false (Go.Builtin.append_ #[22, 22] 22 #[.slice wa acc.length wc, .slice (some ⟨gy.size, 0, none⟩) 1 1]) (fun t h5 => Hp Try.prog false (Go.Instr.loadAt 24 (.pointer (some ⟨g4.size, 0, none⟩))) (fun t65 h_56 => Hp Try.prog false (Go.Instr.buildSlice 22 1 #[(0, t65)]) (fun t66 h_57 => Hp Try.prog false (Go.Builtin.append_ #[22, 22] 22 #[t, t66]) (fun t67 h_58 => Hp Try.prog false (binS .add 3 (.tmp 14) (.const (.int .i64 1)) (.int .i64 i) (.int .i64 1)) (fun t15 h_64 => Y t67 t15 h_64) h_58 ⟨⟩) h_57 ⟨⟩) h_56 ⟨⟩) h5 ⟨⟩) (gy.push (.cells #[.int .i64 (x.at_ : Nat), .int .i64 (x.len : Nat)] runT)) ⟨⟩ := by
          intro hlast
          rw [if_pos ⟨hxy, hlast⟩] at htk
          refine Hp_appR (L := acc) (x := x) rfl oy (by omega) fun v5 h5 o5 m5 f5 => ?_
          have b5 := (m5.block _ (get_some_lt by_) (fun e => by have := wlt _ e; omega)).trans by_
          have q5 := (m5.block _ (get_some_lt qy) (fun e => by have := f4 _ e; omega)).trans qy
          have c0' := cellOf (i := 0) b5 rfl
          have c1' := cellOf (i := 1) b5 rfl
          simp (disch := omega) [c0', c1']
          have z5 := m5.size
          exact put (acc ++ [x]) v5 h5 (by simp; omega) htk o5 (m5.ext_from (e4.trans ey) (fun b hb e => by have := f4 b e; omega)) q5 b5 (by omega) (fun b hb => (f5 b hb).elim (f4 b) (fun e => by omega))
        rcases List.eq_nil_or_concat acc with rfl | ⟨A, z, rfl⟩
        · simp (disch := omega) [d0, d1, v0, v1, w0, w1]
          refine JoinN.mk ?_
          simp (disch := omega) [d0, d1, v0, v1, w0, w1]
          exact both rfl
        · rw [List.concat_eq_append] at *
          obtain ⟨wb, rfl⟩ := hwne (by simp)
          have hz := own_last oy
          have hAl : (A ++ [z]).length = A.length + 1 := by simp
          have ll : lastLt (A ++ [z]) x = decide (z.at_ < x.at_) := lastLt_snoc A z x
          simp (disch := omega) [d0, d1, v0, v1, w0, w1]
          refine JoinN.mk ?_
          by_cases k3 : z.at_ < x.at_
          · simp (disch := omega) [d0, d1, v0, v1, w0, w1, elt_mk, hz]
            exact hAl ▸ both (by rw [ll]; simpa using k3)
          · simp (disch := omega) [d0, d1, v0, v1, w0, w1, elt_mk, hz]
            rw [if_neg (fun e => by rw [ll] at e; simp at e; omega)] at htk
            exact hAl ▸ put (A ++ [z]) _ gy (by omega) htk oy (e4.trans ey) qy by_ (by omega) f4
      · rw [if_neg (show ¬ (y.en < x.at_ ∨ x.en < y.at_) from fun e => e.elim k1 k2)] at htk
        replace htk : (L.take (i + 1)).foldl withStep ([], X) = (acc, mergeR x y) := htk
        have hmn : (if y.at_ < x.at_ then (y.at_ : Int) else (x.at_ : Int)) = ((min x.at_ y.at_ : Nat) : Int) := by split <;> omega
        have hmx : (if (x.at_ : Int) + (x.len : Int) < (y.at_ : Int) + (y.len : Int) then (y.at_ : Int) + (y.len : Int) else (x.at_ : Int) + (x.len : Int)) = ((max (x.at_ + x.len) (y.at_ + y.len) : Nat) : Int) := by split <;> omega
        simp (disch := omega) [d0, d1, v0, v1, w0, w1, Hp_min2, Hp_max2]
        have z0 : hfrozen gy ⟨h.size, 0, none⟩ = false := frzOf qy
        have z1 : hfrozen gy ⟨h.size, 1, none⟩ = false := frzOf qy
        rw [hmn, hmx, show ((max (x.at_ + x.len) (y.at_ + y.len) : Nat) : Int) - ((min x.at_ y.at_ : Nat) : Int) = ((max (x.at_ + x.len) (y.at_ + y.len) - min x.at_ y.at_ : Nat) : Int) by omega]
        simp (disch := omega) [z0, z1, v1]
        refine hY (i + 1, w) _ _ _ rfl (by simp) ⟨hin, ?_, ?_, ?_, ?_, f4⟩ (by dsimp only; omega)
        · have m := Mod.setIn (v := .int .i64 ((max (x.at_ + x.len) (y.at_ + y.len) - min x.at_ y.at_ : Nat) : Int)) (a := ⟨h.size, 1, none⟩) (Mod.set gy ⟨h.size, 0, none⟩ (.int .i64 ((min x.at_ y.at_ : Nat) : Int))) (.inl rfl)
          exact m.ext_from (e4.trans ey) (fun b hb e => by have e' : b = h.size := e; omega)
        · simp; omega
        · dsimp only; rw [htk]
          have m := Mod.setIn (v := .int .i64 ((max (x.at_ + x.len) (y.at_ + y.len) - min x.at_ y.at_ : Nat) : Int)) (a := ⟨h.size, 1, none⟩) (Mod.set gy ⟨h.size, 0, none⟩ (.int .i64 ((min x.at_ y.at_ : Nat) : Int))) (.inl rfl)
          exact oy.mod m (fun b hb e => by have e' : b = h.size := e; have := f4 b hb; omega)
        · dsimp only; rw [htk]
          refine (obj_set (obj_set qy)).trans ?_
          simp [mergeR, Rn.en]
  · obtain rfl : i = L.length := by omega
    rw [List.take_length] at o4 q4 inv w0 w1
    generalize he : L.foldl withStep ([], X) = st at *
    obtain ⟨acc, x⟩ := st
    dsimp only at *
    unfold fitR at inv
    unfold Rn.en at inv
    obtain ⟨⟨in1, in2⟩, in3⟩ := inv
    have wlt : ∀ b, blkV w = some b → b < g4.size := fun b hb => o4.lt hb
    obtain ⟨wa, wn, wc, rfl, -, -, -⟩ := o4.form (by omega)
    obtain ⟨rfl, hwc, hwne⟩ := own_len (v := .pointer none) o4
    simp (disch := omega)
    refine JoinN.mk ?_
    have one : lastLt acc x = true → Hp Try.prog false (Go.Builtin.append_ #[22, 22] 22 #[.slice wa acc.length wc, .slice (some ⟨g4.size, 0, none⟩) 1 1]) (fun t h5 => K t h5) (g4.push (.cells #[.int .i64 (x.at_ : Nat), .int .i64 (x.len : Nat)] runT)) ⟨⟩ := by
      intro hlast
      have hw : withEnd (acc, x) = acc ++ [x] := by unfold withEnd; exact if_pos hlast
      rw [hw] at H
      refine Hp_appR (L := acc) (x := x) rfl o4 (by omega) fun v5 h5 o5 m5 f5 => ?_
      exact H _ _ o5 (m5.ext_from e4 (fun b hb e => by have := f4 b e; omega)) (fun b hb => (f5 b hb).elim (fun e => by have := f4 b e; omega) (fun e => by have := e4.size; omega))
    rcases List.eq_nil_or_concat acc with rfl | ⟨A, z, rfl⟩
    · simp (disch := omega) [w0, w1]
      exact one rfl
    · rw [List.concat_eq_append] at *
      obtain ⟨wb, rfl⟩ := hwne (by simp)
      have hz := own_last o4
      have hAl : (A ++ [z]).length = A.length + 1 := by simp
      have ll : lastLt (A ++ [z]) x = decide (z.at_ < x.at_) := lastLt_snoc A z x
      by_cases k3 : z.at_ < x.at_
      · simp (disch := omega) [w0, w1, elt_mk, hz]
        exact hAl ▸ one (by rw [ll]; simpa using k3)
      · simp (disch := omega) [w0, w1, elt_mk, hz]
        have hw : withEnd (A ++ [z], x) = A ++ [z] := by unfold withEnd; exact if_neg (fun e => by dsimp only at e; rw [ll] at e; simp at e; omega)
        rw [hw] at H
        exact hAl ▸ H _ _ o4 e4 (fun b hb => by have := f4 b hb; omega)
end Go.Proofs.Ytgcllbelgakjgaa
set_option linter.unusedSimpArgs false
set_option linter.unusedVariables false
namespace Go.Proofs.Ytgcllbelgakjgaa
open Go.Vc Go.Sort
variable {K : Value → Heap → Prop} {h : Heap}

def rlT : Nat := 53
/-- The document's queue. -/
structure Rl (h : Heap) (p : Nat) (v : Value) (L : List Rn) : Prop where
  cells : h[p]? = some (.cells #[v] rlT)
  own : OwnT runT 2 h v (L.flatMap (cell2 rnP))
  can : Vc.Can L
  fit : Fit L
  len : L.length ≤ 4096
theorem Rl.rns {p : Nat} {v : Value} {L : List Rn} (a : Rl h p v L) : Rns h v L := Rns.of a.own (by have := a.len; omega) a.fit
theorem Rl.ne {p b : Nat} {v : Value} {L : List Rn} (a : Rl h p v L) (hb : blkV v = some b) : b ≠ p := a.own.ne hb a.cells (by unfold runT rlT; omega)
theorem Rl.ext {h' : Heap} {p : Nat} {v : Value} {L : List Rn} (a : Rl h p v L) (e : Ext h h') : Rl h' p v L := ⟨(e.block _ (get_some_lt a.cells)).trans a.cells, a.own.ext e, a.can, a.fit, a.len⟩
theorem Rl.mod {S : Nat → Prop} {h' : Heap} {p : Nat} {v : Value} {L : List Rn} (a : Rl h p v L) (e : Mod S h h') (hp : ¬ S p) (hv : ∀ b, blkV v = some b → ¬ S b) : Rl h' p v L := ⟨(e.block _ (get_some_lt a.cells) hp).trans a.cells, a.own.mod e hv, a.can, a.fit, a.len⟩
theorem Rl.form {p : Nat} {v : Value} {L : List Rn} (a : Rl h p v L) : ∃ o c, v = .slice o L.length c ∧ L.length ≤ c := Rns.form a.rns
/-- What a call that changes it may change. -/
structure RUpd (h h' : Heap) (p : Nat) (v v' : Value) (L' : List Rn) : Prop where
  st : Rl h' p v' L'
  mod : Mod (fun b => b = p) h h'
  blk : ∀ b, blkV v' = some b → blkV v = some b ∨ h.size ≤ b

theorem rnOf_cells {x : Int × Int} (hm : mayR x) : x.1 = ((rnOf x).at_ : Int) ∧ x.2 = ((rnOf x).len : Int) := by
  have := (rn_of hm).1
  exact ⟨(congrArg Prod.fst this).symm, (congrArg Prod.snd this).symm⟩
theorem putR_take {L : List Rn} {l : List (Int × Int)} {i : Nat} (hi : i < l.length) : putR L ((l.take (i + 1)).map rnOf) = insR (putR L ((l.take i).map rnOf)) (rnOf l[i]) := by
  unfold putR
  rw [List.take_succ_eq_append_getElem hi, List.map_append, List.foldl_append]; rfl

set_option maxHeartbeats 4000000 in
theorem rPut_c {p : Nat} {v w : Value} {L : List Rn} {l : List (Int × Int)} (a : Rl h p v L) (rv : Rws h w l) (hl : l.length < 90000) (hwp : l ≠ [] → ∀ b, blkV w = some b → b ≠ p)
    (H0 : ∀ h', Ext h h' → ¬ (∀ x ∈ l, mayR x) → K (.tuple #[.int .i64 0, .int .i64 2]) h')
    (H1 : ∀ h', Ext h h' → (∀ x ∈ l, mayR x) → 4096 < (putR L (l.map rnOf)).length → K (.tuple #[.int .i64 0, .int .i64 6]) h')
    (H2 : ∀ v' h', (∀ x ∈ l, mayR x) → RUpd h h' p v v' (putR L (l.map rnOf)) → K (.tuple #[.int .i64 ((bytesR (putR L (l.map rnOf)) : Int) - (bytesR L : Int)), .int .i64 0]) h') :
    CallsH Try.prog 23 #[ptrV p, w] h K ⟨⟩ := by
  refine n23_calls ?_
  unfold n23 ptrV
  obtain ⟨wa, wc, rfl, hwc⟩ := rv.form
  refine loopX1 (α := Nat) (fun i => .int .i64 i) (fun i g => Ext h g ∧ i ≤ l.length ∧ ∀ x ∈ l.take i, mayR x) (fun i => l.length - i) 0 rfl ⟨.refl _, by simp, by simp⟩ ?_
  rintro i g ⟨e1, hi, hall⟩ X hX
  by_cases hin : i < l.length
  · obtain ⟨ad, c', hv, -, c0, c1⟩ := (rv.ext e1).cell hin
    obtain ⟨rfl, -⟩ : wa = some ad ∧ wc = c' := by cases hv; exact ⟨rfl, rfl⟩
    have htk := List.take_succ_eq_append_getElem hin
    have hix := rv.ok _ (List.getElem_mem hin)
    have hmem := List.getElem_mem hin
    generalize l[i] = x at *
    simp (disch := omega) [c0, c1]
    refine refMay_c (x := x) hix fun h2 e2 => ?_
    by_cases hm : mayR x
    · simp (disch := omega) [hm]
      refine hX (i + 1) _ _ (by simp) ⟨e1.trans e2, hin, ?_⟩ (by omega)
      intro y hy
      rw [htk] at hy
      rcases List.mem_append.1 hy with hy | hy
      · exact hall y hy
      · simp at hy; subst hy; exact hm
    · simp (disch := omega) [hm]
      exact H0 _ (e1.trans e2) (fun hh => hm (hh x hmem))
  obtain rfl : i = l.length := by omega
  rw [List.take_length] at hall
  have hl64 := rv.few
  have v0 := cellOf (i := 0) (a.ext e1).cells rfl
  obtain ⟨hM, fM, pM⟩ := rns_of hall
  obtain ⟨cR, vR, fR⟩ := putR_spec a.can pM a.fit fM
  simp (disch := omega) [v0]
  have pre : ∀ i, Vc.Can (putR L ((l.take i).map rnOf)) ∧ Fit (putR L ((l.take i).map rnOf)) ∧ (putR L ((l.take i).map rnOf)).length ≤ 4096 + 90000 := fun i => by
    have h1 : ∀ x ∈ l.take i, mayR x := fun x hx => hall x (List.mem_of_mem_take hx)
    obtain ⟨-, f, p⟩ := rns_of h1
    obtain ⟨c, -, f2⟩ := putR_spec a.can p a.fit f
    have := putR_len ((l.take i).map rnOf) L
    have := a.len
    simp at *
    exact ⟨c, f2, by omega⟩
  refine loopX2 (α := Nat × Value) (fun a => a.2) (fun a => .int .i64 a.1) (fun a' g' => a'.1 ≤ l.length ∧ Ext g g' ∧ OwnT runT 2 g' a'.2 ((putR L ((l.take a'.1).map rnOf)).flatMap (cell2 rnP)) ∧ ∀ b, blkV a'.2 = some b → blkV v = some b ∨ h.size ≤ b) (fun a => l.length - a.1) (0, v) ⟨rfl, rfl⟩ ⟨by simp, .refl _, by simpa [putR] using a.own.ext e1, (fun b hb => .inl hb)⟩ ?_
  rintro ⟨i, u⟩ g2 ⟨hi, e2, o2, f2⟩ Y hY
  dsimp only at hi e2 o2 f2 hY ⊢
  have z1 := e1.size
  by_cases hin : i < l.length
  · obtain ⟨ad, c', hv, -, c0, c1⟩ := (rv.ext (e1.trans e2)).cell hin
    obtain ⟨rfl, -⟩ : wa = some ad ∧ wc = c' := by cases hv; exact ⟨rfl, rfl⟩
    have htk := putR_take (L := L) hin
    obtain ⟨n1, n2, n3, n4⟩ := rn_of (hall _ (List.getElem_mem hin))
    have hc := rnOf_cells (hall _ (List.getElem_mem hin))
    obtain ⟨p1, p2, p3⟩ := pre i
    rw [hc.1] at c0
    rw [hc.2] at c1
    generalize rnOf l[i] = X at *
    generalize putR L ((l.take i).map rnOf) = A at *
    simp (disch := omega) [c0, c1]
    refine rWith_c (L := A) (X := X) (Rns.of o2 (by omega) p2) p2 (by omega) ⟨n3, n4⟩ fun u3 h3 o3 e3 f3 => ?_
    rw [with_eq p1 n2] at o3
    have z2 := e2.size
    simp (disch := omega)
    refine hY (i + 1, u3) _ _ _ rfl (by simp) ⟨hin, e2.trans e3, by dsimp only; rw [htk]; exact o3, fun b hb => .inr (by have := f3 b hb; omega)⟩ (by dsimp only; omega)
  obtain rfl : i = l.length := by omega
  rw [List.take_length] at o2
  have hp9 := pre l.length
  rw [List.take_length] at hp9
  have hB := bytes_fit cR fR
  have hB2 := bytes_fit a.can a.fit
  have hr2 := Rns.of o2 (by omega) fR
  generalize putR L (l.map rnOf) = R at *
  obtain ⟨ua, un, uc, rfl, -, -, -⟩ := o2.form (by omega)
  obtain ⟨rfl, huc, -⟩ := own_len (v := .pointer none) o2
  by_cases h4k : 4096 < R.length
  · simp (disch := omega)
    exact H1 _ (e1.trans e2) hall h4k
  · have a2 := a.ext (e1.trans e2)
    have w0 := cellOf (i := 0) a2.cells rfl
    simp (disch := omega) [w0]
    refine refBytes_c hr2 hB fun h3 e3 => ?_
    have x0 := hcell_ext e3 w0
    refine ⟨by simp (disch := omega) [x0], ?_⟩
    refine refBytes_c (a2.ext e3).rns hB2 fun h4 e4 => ?_
    have a4 := a2.ext (e3.trans e4)
    have y0 := cellOf (i := 0) a4.cells rfl
    have y1 : hfrozen h4 ⟨p, 0, none⟩ = false := frzOf a4.cells
    simp (disch := omega) [y0, y1]
    have E4 := ((e1.trans e2).trans (e3.trans e4))
    have m5 := Mod.set h4 ⟨p, 0, none⟩ (.slice ua R.length uc)
    refine H2 _ _ hall ⟨⟨?_, ?_, cR, fR, by omega⟩, ?_, f2⟩
    · refine (obj_set a4.cells).trans ?_
      simp
    · exact (o2.ext (e3.trans e4)).mod m5 (fun b hb e => by
        have e' : b = p := e
        exact (o2.ext (e3.trans e4)).ne hb a4.cells (by unfold runT rlT; omega) e')
    · exact (Mod.of_ext E4).trans m5 (fun b _ e => e)
end Go.Proofs.Ytgcllbelgakjgaa
set_option linter.unusedSimpArgs false
set_option linter.unusedVariables false
namespace Go.Proofs.Ytgcllbelgakjgaa
open Go.Vc Go.Sort
variable {K : Value → Heap → Prop} {h : Heap}

theorem rl_set {p : Nat} {v u : Value} {L R : List Rn} {g : Heap} (a : Rl h p v L) (e : Ext h g) (o : OwnT runT 2 g u (R.flatMap (cell2 rnP))) (f : ∀ b, blkV u = some b → blkV v = some b ∨ h.size ≤ b) (hc : Vc.Can R) (hf : Fit R) (hl : R.length ≤ 4096) : RUpd h (hset g ⟨p, 0, none⟩ u) p v u R := by
  have a2 := a.ext e
  have m5 := Mod.set g ⟨p, 0, none⟩ u
  refine ⟨⟨?_, ?_, hc, hf, hl⟩, (Mod.of_ext e).trans m5 (fun b _ e => e), f⟩
  · refine (obj_set a2.cells).trans ?_
    simp
  · exact o.mod m5 (fun b hb e => o.ne hb a2.cells (by unfold runT rlT; omega) e)
set_option maxHeartbeats 4000000 in
theorem rCut_c {p : Nat} {v : Value} {L : List Rn} {x : Int × Int} (a : Rl h p v L) (hx : i64 x.1 ∧ i64 x.2) (H0 : ∀ h', Ext h h' → ¬ mayR x → K (.tuple #[.int .i64 0, .int .i64 2]) h')
    (H1 : ∀ h', Ext h h' → mayR x → 4096 < (lessR (rnOf x) L).length → K (.tuple #[.int .i64 0, .int .i64 6]) h')
    (H2 : ∀ v' h', mayR x → RUpd h h' p v v' (lessR (rnOf x) L) → K (.tuple #[.int .i64 (overR (rnOf x) L : Nat), .int .i64 0]) h') : CallsH Try.prog 47 #[ptrV p, rwA x] h K ⟨⟩ := by
  refine n47_calls ?_
  unfold n47 rwA ptrV
  simp (disch := omega)
  refine (⟨_, rfl⟩ : ∃ f, f = h.push (.cells #[.int .i64 x.1, .int .i64 x.2] runT)).elim fun g eg => ?_
  have e0 : Ext h g := by rw [eg]; exact (by repeat' (first | (with_reducible exact Ext.refl _) | (with_reducible assumption) | (with_reducible refine push_ext ?_) | (with_reducible refine hset_ext ?_ ?_) | (with_reducible refine Ext.trans ?_ (by assumption)) | omega | (simp; done) | (simp; omega) | (refine Ext.size ?_) | (refine Nat.le_succ_of_le (Ext.size ?_))))
  have q0 : g[h.size]? = some (.cells #[.int .i64 x.1, .int .i64 x.2] runT) := by rw [eg]; exact get_pushed rfl
  rw [show h.push (.cells #[.int .i64 x.1, .int .i64 x.2] 24) = g from eg.symm]
  clear eg
  have x0 := cellOf (i := 0) q0 rfl
  have x1 := cellOf (i := 1) q0 rfl
  refine refMay_c (x := x) hx fun h2 e2 => ?_
  by_cases hm : mayR x
  case neg =>
    simp (disch := omega) [hm]
    exact H0 _ (e0.trans e2) hm
  simp (disch := omega) [hm]
  obtain ⟨m1, m2, m3, m4⟩ := rn_of hm
  obtain ⟨hx1, hx2⟩ := rnOf_cells hm
  rw [hx1] at x0
  rw [hx2] at x1
  generalize rnOf x = X at *
  have a2 := a.ext (e0.trans e2)
  have w0 := cellOf (i := 0) a2.cells rfl
  have y0 := hcell_ext e2 x0
  have y1 := hcell_ext e2 x1
  have hl := a.len
  simp (disch := omega) [w0, y0, y1]
  refine rLess_c (X := X) a2.rns a.fit (by omega) m3 m4 fun u h3 o3 e3 f3 => ?_
  have hB := bytes_fit a.can a.fit
  have hbl := lessR_bytes (x := X) (l := L)
  have cR := lessR_can m2 a.can
  have fR := lessR_fit (x := X) a.fit
  have hll := lessR_len2 X L
  have r3 := Rns.of o3 (by omega) fR
  generalize lessR X L = R at *
  obtain ⟨ua, un, uc, rfl, -, -, -⟩ := o3.form (by omega)
  obtain ⟨rfl, huc, -⟩ := own_len (v := .pointer none) o3
  by_cases h4k : 4096 < R.length
  · simp (disch := omega)
    exact H1 _ ((e0.trans e2).trans e3) hm h4k
  · have a3 := a2.ext e3
    have w1 := cellOf (i := 0) a3.cells rfl
    simp (disch := omega) [w1]
    refine refBytes_c a3.rns hB fun h4 e4 => ?_
    refine refBytes_c (r3.ext e4) (by omega) fun h5 e5 => ?_
    have a5 := a3.ext (e4.trans e5)
    have k0 := cellOf (i := 0) a5.cells rfl
    have k1 : hfrozen h5 ⟨p, 0, none⟩ = false := frzOf a5.cells
    simp (disch := omega) [k0, k1]
    have z2 := (e0.trans e2).size
    have hK := H2 _ _ hm (rl_set a ((e0.trans e2).trans (e3.trans (e4.trans e5))) (o3.ext (e4.trans e5)) (fun b hb => .inr (by have := f3 b hb; omega)) cR fR (by omega))
    rw [show ((bytesR L : Int) - (bytesR R : Int)) = ((overR X L : Nat) : Int) by omega]
    exact hK
set_option maxHeartbeats 2000000 in
theorem rOver_c {p : Nat} {v : Value} {L : List Rn} {x : Rn} (a : Rl h p v L) (hx : x.en ≤ 72057594037927936) (H : ∀ h', Ext h h' → K (.int .i64 (overR x L : Nat)) h') : CallsH Try.prog 51 #[ptrV p, rwA (rnP x)] h K ⟨⟩ := by
  refine n51_calls ?_
  unfold n51 rwA rnP ptrV
  simp (disch := omega)
  refine (⟨_, rfl⟩ : ∃ f, f = h.push (.cells #[.int .i64 (x.at_ : Nat), .int .i64 (x.len : Nat)] runT)).elim fun g0 eg0 => ?_
  have e0 : Ext h g0 := by rw [eg0]; exact (by repeat' (first | (with_reducible exact Ext.refl _) | (with_reducible assumption) | (with_reducible refine push_ext ?_) | (with_reducible refine hset_ext ?_ ?_) | (with_reducible refine Ext.trans ?_ (by assumption)) | omega | (simp; done) | (simp; omega) | (refine Ext.size ?_) | (refine Nat.le_succ_of_le (Ext.size ?_))))
  have B0 : g0[h.size]? = some (.cells #[.int .i64 (x.at_ : Nat), .int .i64 (x.len : Nat)] runT) := by rw [eg0]; exact get_pushed rfl
  rw [show h.push (.cells #[.int .i64 (x.at_ : Nat), .int .i64 (x.len : Nat)] 24) = g0 from eg0.symm]
  clear eg0
  have d0 := cellOf (i := 0) B0 rfl
  have d1 := cellOf (i := 1) B0 rfl
  obtain ⟨va, vc, rfl, hvc⟩ := a.form
  have hl := a.len
  have hB := bytes_fit a.can a.fit
  have hO := overR_le x L
  refine loopX2 (α := Nat) (fun i => .int .i64 (overR x (L.take i) : Nat)) (fun i => .int .i64 i) (fun i g => Ext g0 g ∧ i ≤ L.length) (fun i => L.length - i) 0 ⟨by simp [overR], by simp⟩ ⟨.refl _, by omega⟩ ?_
  rintro i g ⟨e1, hi⟩ X hX
  have a1 := a.ext (e0.trans e1)
  have w0 := cellOf (i := 0) a1.cells rfl
  by_cases hin : i < L.length
  · obtain ⟨ad', c', hv, -, c0, c1⟩ := Rns.cell a1.rns hin
    obtain ⟨rfl, -⟩ : va = some ad' ∧ vc = c' := by cases hv; exact ⟨rfl, rfl⟩
    have h1 := overR_take (x := x) hin
    have h2 := overR_take_le x L (i + 1)
    have hy := a.fit _ (List.getElem_mem hin)
    have f0 := hcell_ext e1 d0
    have f1 := hcell_ext e1 d1
    have hsz : h.size < g.size := get_some_lt ((e1.block _ (get_some_lt B0)).trans B0)
    unfold Rn.en at hx hy
    simp (disch := omega) [w0, c0, c1, f0, f1, Hp_max2, Hp_min2]
    refine hX (i + 1) _ _ _ ?_ (by simp) ⟨e1.trans (by repeat' (first | (with_reducible exact Ext.refl _) | (with_reducible assumption) | (with_reducible refine push_ext ?_) | (with_reducible refine hset_ext ?_ ?_) | (with_reducible refine Ext.trans ?_ (by assumption)) | omega | (simp; done) | (simp; omega) | (refine Ext.size ?_) | (refine Nat.le_succ_of_le (Ext.size ?_)))), hin⟩ (by omega)
    rw [h1]
    congr 1
    unfold meet Rn.en
    push_cast
    (repeat' split) <;> omega
  · simp (disch := omega) [w0]
    rw [List.take_of_length_le (by omega)]
    exact H _ (e0.trans e1)
end Go.Proofs.Ytgcllbelgakjgaa
set_option linter.unusedSimpArgs false
set_option linter.unusedVariables false
namespace Go.Proofs.Ytgcllbelgakjgaa
open Go.Vc Go.Sort
variable {K : Value → Heap → Prop} {h : Heap}

theorem less_first_len {x : Rn} {l : List Rn} {k : Nat} (h : Vc.Can (x :: l)) (hk : 0 < k) (hk2 : k ≤ x.len) : (lessR ⟨x.at_, k⟩ (x :: l)).length ≤ (x :: l).length := by
  rw [less_first h hk hk2]
  split <;> simp
theorem can_lt {L : List Rn} (h : Vc.Can L) {i j : Nat} (hij : i < j) (hj : j < L.length) : (L[i]'(by omega)).at_ < L[j].at_ := by
  have hs : L = L.take j ++ L[j] :: L.drop (j + 1) := by rw [List.getElem_cons_drop, List.take_append_drop]
  have h' := h
  rw [hs] at h'
  have := (can_mid h').2.2.1 (L[i]'(by omega)) (List.mem_take_iff_getElem.2 ⟨i, by omega, rfl⟩)
  unfold Rn.en at this; omega
theorem best_one {x y : Rn} {L : List Rn} (hc : Vc.Can L) (hx : IsBest x L) (hy : IsBest y L) : x = y := by
  have h1 := hx.2 y hy.1
  have h2 := hy.2 x hx.1
  have e1 : x.at_ = y.at_ := by omega
  have e2 : x.len = y.len := by omega
  cases x; cases y; simp_all
theorem best_len {x : Rn} {L : List Rn} (hc : Vc.Can L) (hx : IsBest x L) : 0 < x.len ∧ (lessR x L).length ≤ L.length := by
  obtain ⟨A, B, rfl⟩ := List.append_of_mem hx.1
  refine ⟨(can_mid hc).2.1, ?_⟩
  rw [less_mid hc]
  simp
theorem rupd_ans {h' : Heap} {p b : Nat} {v v' x y : Value} {L' : List Rn} (u : RUpd h h' p v v' L') (hb : h.size ≤ b) (hp : b ≠ p) (hv : ∀ c, blkV v' = some c → c ≠ b) : RUpd h (hset (hset h' ⟨b, 0, none⟩ x) ⟨b, 1, none⟩ y) p v v' L' := by
  have m := Mod.setIn (v := y) (a := ⟨b, 1, none⟩) (Mod.set h' ⟨b, 0, none⟩ x) (.inl rfl)
  exact ⟨u.st.mod m (fun e => by have e' : p = b := e; exact hp e'.symm) (fun c hc e => by have e' : c = b := e; exact hv c hc e'), u.mod.trans m (fun c hc e => by have e' : c = b := e; omega), u.blk⟩
theorem RUpd.from {h0 h' : Heap} {p : Nat} {v v' : Value} {L' : List Rn} (e : Ext h0 h) (u : RUpd h h' p v v' L') : RUpd h0 h' p v v' L' := ⟨u.st, (Mod.of_ext e).trans u.mod (fun _ _ x => x), fun b hb => (u.blk b hb).imp (fun x => x) (fun x => by have := e.size; omega)⟩
theorem RUpd.ext {h2 h' : Heap} {p : Nat} {v v' : Value} {L' : List Rn} (u : RUpd h h' p v v' L') (e : Ext h' h2) : RUpd h h2 p v v' L' := ⟨u.st.ext e, Mod.extIn u.mod e, u.blk⟩

set_option maxHeartbeats 4000000 in
theorem rNext_c {p : Nat} {v : Value} {L : List Rn} {most : Int} (a : Rl h p v L) (hm : i64 most)
    (H0 : ∀ h', Ext h h' → most < 1 → K (.tuple #[rwA (0, 0), .int .i64 2]) h')
    (H1 : ∀ h', Ext h h' → 1 ≤ most → L = [] → K (.tuple #[rwA (0, 0), .int .i64 7]) h')
    (H2 : ∀ x L0 v' h', 1 ≤ most → L = x :: L0 → RUpd h h' p v v' (lessR ⟨x.at_, min x.len most.toNat⟩ L) → K (.tuple #[rwA (rnP ⟨x.at_, min x.len most.toNat⟩), .int .i64 0]) h') :
    CallsH Try.prog 48 #[ptrV p, .int .i64 most] h K ⟨⟩ := by
  refine n48_calls ?_
  unfold n48 ptrV
  simp (disch := omega)
  refine (⟨_, rfl⟩ : ∃ f, f = h.push (.cells #[.int .i64 0, .int .i64 0] runT)).elim fun g eg => ?_
  have e0 : Ext h g := by rw [eg]; exact (by repeat' (first | (with_reducible exact Ext.refl _) | (with_reducible assumption) | (with_reducible refine push_ext ?_) | (with_reducible refine hset_ext ?_ ?_) | (with_reducible refine Ext.trans ?_ (by assumption)) | omega | (simp; done) | (simp; omega) | (refine Ext.size ?_) | (refine Nat.le_succ_of_le (Ext.size ?_))))
  have q0 : g[h.size]? = some (.cells #[.int .i64 0, .int .i64 0] runT) := by rw [eg]; exact get_pushed rfl
  rw [show h.push (.cells #[.int .i64 0, .int .i64 0] 24) = g from eg.symm]
  clear eg
  have aG := a.ext e0
  have x0 := cellOf (i := 0) q0 rfl
  have x1 := cellOf (i := 1) q0 rfl
  have f0 : hfrozen g ⟨h.size, 0, none⟩ = false := frzOf q0
  have f1 : hfrozen g ⟨h.size, 1, none⟩ = false := frzOf q0
  obtain ⟨hm0, hm1⟩ := hm
  by_cases hms : most < 1
  · simp (disch := omega) [x0, x1, f0, f1]
    exact H0 _ (ans_ext e0 (Nat.le_refl _)) hms
  obtain ⟨va, vc, rfl, hvc⟩ := a.form
  have w0 := cellOf (i := 0) aG.cells rfl
  have hpl := get_some_lt a.cells
  have hl := a.len
  cases L with
  | nil =>
    simp (disch := omega) [w0, x0, x1, f0, f1]
    exact H1 _ (ans_ext e0 (Nat.le_refl _)) (by omega) rfl
  | cons x L0 =>
    obtain ⟨ad, c', hv, -, c0, c1⟩ := Rns.cell aG.rns (i := 0) (by simp)
    obtain ⟨rfl, -⟩ : va = some ad ∧ vc = c' := by cases hv; exact ⟨rfl, rfl⟩
    simp [elt] at c0 c1
    have c2 : hcell g (ad.add 1) = some (.int .i64 (x.len : Nat)) := by rw [← c1]; simp [Go.Addr.add]
    have hfx := a.fit x (by simp)
    unfold Rn.en at hfx
    have hxl := a.can.pos x (by simp)
    have hk : (if most < (x.len : Int) then most else (x.len : Int)) = ((min x.len most.toNat : Nat) : Int) := by split <;> omega
    have hlen : 0 < (x :: L0).length := by simp
    have hmk : 0 < min x.len most.toNat := by omega
    have hmk2 : min x.len most.toNat ≤ x.len := by omega
    generalize hY : (x :: L0).length = Y at *
    have zg := get_some_lt q0
    have zp : g.size ≠ p := by have := e0.size; omega
    have zp' : p ≠ g.size := fun e => zp e.symm
    simp (disch := omega) [w0, c0, c1, c2, x0, x1, f0, f1, zp, zp', hk]
    refine (⟨_, rfl⟩ : ∃ f, f = hset (hset (hset (g.push (.cells #[.int .i64 0, .int .i64 0] runT)) ⟨g.size, 0, none⟩ (.int .i64 (x.at_ : Nat))) ⟨g.size, 1, none⟩ (.int .i64 (x.len : Nat))) ⟨g.size, 1, none⟩ (.int .i64 ((min x.len most.toNat : Nat) : Int))).elim fun gy egy => ?_
    have ey : Ext g gy := by rw [egy]; exact (by repeat' (first | (with_reducible exact Ext.refl _) | (with_reducible assumption) | (with_reducible refine push_ext ?_) | (with_reducible refine hset_ext ?_ ?_) | (with_reducible refine Ext.trans ?_ (by assumption)) | omega | (simp; done) | (simp; omega) | (refine Ext.size ?_) | (refine Nat.le_succ_of_le (Ext.size ?_))))
    have by_ : gy[g.size]? = some (.cells #[.int .i64 (x.at_ : Nat), .int .i64 ((min x.len most.toNat : Nat) : Int)] runT) := by
      rw [egy]
      refine (obj_set (obj_set (obj_set (get_pushed rfl)))).trans ?_
      simp
    rw [show hset (hset (hset (g.push (.cells #[.int .i64 0, .int .i64 0] 24)) ⟨g.size, 0, none⟩ (.int .i64 (x.at_ : Nat))) ⟨g.size, 1, none⟩ (.int .i64 (x.len : Nat))) ⟨g.size, 1, none⟩ (.int .i64 ((min x.len most.toNat : Nat) : Int)) = gy from egy.symm]
    clear egy
    have aY := aG.ext ey
    subst hY
    have e1 := e0.trans ey
    have d0 := cellOf (i := 0) by_ rfl
    have d1 := cellOf (i := 1) by_ rfl
    simp (disch := omega) [d0, d1]
    generalize hk9 : min x.len most.toNat = k at *
    refine rLess_c (X := ⟨x.at_, k⟩) aY.rns a.fit (by omega) hfx.1 (by unfold Rn.en; dsimp only; omega) fun u h3 o3 e3 f3 => ?_
    have hll := less_first_len a.can hmk hmk2
    obtain ⟨ua, un, uc, rfl, -, -, -⟩ := o3.form (by omega)
    have hU := rl_set a (e1.trans e3) o3 (fun b hb => .inr (by have := f3 b hb; have := e1.size; omega)) (lessR_can hmk a.can) (lessR_fit a.fit) (by omega)
    have a3 := aY.ext e3
    have k1 : hfrozen h3 ⟨p, 0, none⟩ = false := frzOf a3.cells
    have k0 := cellOf (i := 0) a3.cells rfl
    have b3 := (e3.block _ (get_some_lt by_)).trans by_
    have q3 := ((ey.trans e3).block _ (get_some_lt q0)).trans q0
    have l0 := cellOf (i := 0) b3 rfl
    have l1 := cellOf (i := 1) b3 rfl
    have r0 := cellOf (i := 0) q3 rfl
    have r1 := cellOf (i := 1) q3 rfl
    have s0 : hfrozen h3 ⟨h.size, 0, none⟩ = false := frzOf q3
    have s1 : hfrozen h3 ⟨h.size, 1, none⟩ = false := frzOf q3
    have zq : h.size ≠ p := by omega
    have zq' : p ≠ h.size := by omega
    have zr : g.size ≠ h.size := by omega
    simp (disch := omega) [k0, k1, l0, l1, r0, r1, s0, s1, zp, zq, zp', zq', zr]
    subst hk9
    refine H2 x L0 _ _ (by omega) rfl (rupd_ans hU (Nat.le_refl _) zq fun c hc e => ?_)
    have := f3 c hc
    have := ey.size
    omega

set_option maxHeartbeats 4000000 in
theorem rGreatest_c {p : Nat} {v : Value} {L : List Rn} (a : Rl h p v L)
    (H0 : ∀ h', Ext h h' → L = [] → K (.tuple #[rwA (0, 0), .int .i64 7]) h')
    (H1 : ∀ x v' h', IsBest x L → RUpd h h' p v v' (lessR x L) → K (.tuple #[rwA (rnP x), .int .i64 0]) h') :
    CallsH Try.prog 49 #[ptrV p] h K ⟨⟩ := by
  refine n49_calls ?_
  unfold n49 ptrV
  obtain ⟨va, vc, rfl, hvc⟩ := a.form
  have w0 := cellOf (i := 0) a.cells rfl
  have hpl := get_some_lt a.cells
  have hl := a.len
  by_cases hL : L = []
  · subst hL
    simp (disch := omega) [w0]
    exact H0 _ (by repeat' (first | (with_reducible exact Ext.refl _) | (with_reducible assumption) | (with_reducible refine push_ext ?_) | (with_reducible refine hset_ext ?_ ?_) | (with_reducible refine Ext.trans ?_ (by assumption)) | omega | (simp; done) | (simp; omega) | (refine Ext.size ?_) | (refine Nat.le_succ_of_le (Ext.size ?_)))) rfl
  · have hlen : 0 < L.length := List.length_pos_iff.2 hL
    obtain ⟨ad, c', hv, -, c0, c1⟩ := Rns.cell a.rns (i := 0) hlen
    obtain ⟨rfl, -⟩ : va = some ad ∧ vc = c' := by cases hv; exact ⟨rfl, rfl⟩
    simp [elt] at c0 c1
    have c2 : hcell h (ad.add 1) = some (.int .i64 (L[0].len : Nat)) := by rw [← c1]; simp [Go.Addr.add]
    have hb0 : ∀ y ∈ L.take 1, y.len < L[0].len ∨ (y.len = L[0].len ∧ L[0].at_ ≤ y.at_) := fun y hy => by
      rw [List.mem_take_iff_getElem] at hy
      obtain ⟨j, hj, rfl⟩ := hy
      obtain rfl : j = 0 := by omega
      exact .inr ⟨rfl, Nat.le_refl _⟩
    have hm0 : L[0] ∈ L.take 1 := List.mem_take_iff_getElem.2 ⟨0, by omega, rfl⟩
    generalize L[0] = x at *
    have hab := Rws.lt a.rns (by intro e; rw [List.map_eq_nil_iff] at e; exact hL e) (b := ad.block) rfl
    have hab1 : ad.block ≠ h.size := by omega
    have hab2 : (ad.add 1).block ≠ h.size := by simp [Go.Addr.add]; omega
    simp (disch := omega) [w0, c0, c1, c2, hab1, hab2]
    refine (⟨_, rfl⟩ : ∃ f, f = hset (hset ((h.push (.cells #[.int .i64 0, .int .i64 0] runT)).push (.cells #[.int .i64 0, .int .i64 0] runT)) ⟨h.size + 1, 0, none⟩ (.int .i64 (x.at_ : Nat))) ⟨h.size + 1, 1, none⟩ (.int .i64 (x.len : Nat))).elim fun gy egy => ?_
    have ey : Ext h gy := by rw [egy]; exact (by repeat' (first | (with_reducible exact Ext.refl _) | (with_reducible assumption) | (with_reducible refine push_ext ?_) | (with_reducible refine hset_ext ?_ ?_) | (with_reducible refine Ext.trans ?_ (by assumption)) | omega | (simp; done) | (simp; omega) | (refine Ext.size ?_) | (refine Nat.le_succ_of_le (Ext.size ?_))))
    have by_ : gy[h.size + 1]? = some (.cells #[.int .i64 (x.at_ : Nat), .int .i64 (x.len : Nat)] runT) := by
      rw [egy]
      refine (obj_set (obj_set (get_pushed (by simp)))).trans ?_
      simp
    have q0 : gy[h.size]? = some (.cells #[.int .i64 0, .int .i64 0] runT) := by
      rw [egy]
      exact (get_hset' (by simp)).trans ((get_hset' (by simp)).trans ((get_push (by simp)).trans (get_pushed rfl)))
    rw [show hset (hset ((h.push (.cells #[.int .i64 0, .int .i64 0] 24)).push (.cells #[.int .i64 0, .int .i64 0] 24)) ⟨h.size + 1, 0, none⟩ (.int .i64 (x.at_ : Nat))) ⟨h.size + 1, 1, none⟩ (.int .i64 (x.len : Nat)) = gy from egy.symm]
    clear egy
    have zg : h.size + 1 < gy.size := get_some_lt by_
    refine loopX1 (α := Nat × Rn) (fun a => .int .i64 a.1) (fun a' g' => 1 ≤ a'.1 ∧ a'.1 ≤ L.length ∧ Mod (fun b => b = h.size + 1) gy g' ∧ g'[h.size + 1]? = some (.cells #[.int .i64 (a'.2.at_ : Nat), .int .i64 (a'.2.len : Nat)] runT) ∧ a'.2 ∈ L.take a'.1 ∧ ∀ y ∈ L.take a'.1, y.len < a'.2.len ∨ (y.len = a'.2.len ∧ a'.2.at_ ≤ y.at_)) (fun a => L.length - a.1) (1, x) rfl ⟨Nat.le_refl _, hlen, .of_ext (.refl _), by_, hm0, hb0⟩ ?_
    rintro ⟨i, z⟩ g4 ⟨hi1, hi, m4, b4, hz, hb⟩ X hX
    dsimp only at hi1 hi m4 b4 hz hb hX ⊢
    have e4 : Ext h g4 := m4.ext_from ey (fun b hb e => by omega)
    have a4 := a.ext e4
    have q4 := (m4.block _ (get_some_lt q0) (by omega)).trans q0
    have y0 := cellOf (i := 0) a4.cells rfl
    have d0 := cellOf (i := 0) b4 rfl
    have d1 := cellOf (i := 1) b4 rfl
    have hfz := a.fit z (List.mem_of_mem_take hz)
    have z4 := get_some_lt b4
    have hp1 : p ≠ h.size + 1 := by omega
    have hp2 : h.size + 1 ≠ p := by omega
    have f40 : hfrozen g4 ⟨h.size + 1, 0, none⟩ = false := frzOf b4
    have f41 : hfrozen g4 ⟨h.size + 1, 1, none⟩ = false := frzOf b4
    by_cases hin : i < L.length
    · obtain ⟨ad', c', hv, -, c0, c1⟩ := Rns.cell a4.rns hin
      obtain ⟨e9, -⟩ : ad = ad' ∧ vc = c' := by cases hv; exact ⟨rfl, rfl⟩
      subst e9
      have htk := List.take_succ_eq_append_getElem hin
      have hord : z.at_ < L[i].at_ := by
        rw [List.mem_take_iff_getElem] at hz
        obtain ⟨j, hj, rfl⟩ := hz
        exact can_lt a.can (by omega) hin
      have hfy := a.fit _ (List.getElem_mem hin)
      generalize L[i] = y at *
      simp (disch := omega) [y0]
      refine JoinN.mk ?_
      refine JoinN.mk ?_
      unfold Rn.en at hfy hfz
      by_cases k1 : z.len < y.len
      · have hab3 : ¬ (ad.block = h.size + 1) := by omega
        simp (disch := omega) [y0, c0, c1, d0, d1, f40, f41, hp1, hp2, hab3]
        have m5 := Mod.setIn (v := .int .i64 (y.len : Nat)) (a := ⟨h.size + 1, 1, none⟩) (Mod.set g4 ⟨h.size + 1, 0, none⟩ (.int .i64 (y.at_ : Nat))) (.inl rfl)
        refine hX (i + 1, y) _ _ (by simp) ⟨by dsimp only; omega, hin, m4.trans m5 (fun _ _ e => e), ?_, by dsimp only; rw [htk]; simp, ?_⟩ (by dsimp only; omega)
        · refine (obj_set (obj_set b4)).trans ?_
          simp
        · intro w hw
          dsimp only at hw ⊢
          rw [htk] at hw
          rcases List.mem_append.1 hw with hw | hw
          · have := hb w hw; omega
          · simp at hw; subst hw; exact .inr ⟨rfl, Nat.le_refl _⟩
      · simp (disch := omega) [y0, c0, c1, d0, d1]
        refine hX (i + 1, z) _ _ (by simp) ⟨by dsimp only; omega, hin, m4, b4, by dsimp only; rw [htk]; exact List.mem_append_left _ hz, ?_⟩ (by dsimp only; omega)
        intro w hw
        dsimp only at hw ⊢
        rw [htk] at hw
        rcases List.mem_append.1 hw with hw | hw
        · exact hb w hw
        · simp at hw; subst hw; omega
    · obtain rfl : i = L.length := by omega
      rw [List.take_length] at hz hb
      have hbest : IsBest z L := ⟨hz, hb⟩
      obtain ⟨z1, z2⟩ := best_len a.can hbest
      unfold Rn.en at hfz
      simp (disch := omega) [y0, d0, d1]
      refine rLess_c (X := z) a4.rns a.fit (by omega) hfz.1 hfz.2 fun u h3 o3 e3 f3 => ?_
      obtain ⟨ua, un, uc, rfl, -, -, -⟩ := o3.form (by omega)
      have hU := rl_set a (e4.trans e3) o3 (fun b hb => .inr (by have := f3 b hb; have := e4.size; omega)) (lessR_can z1 a.can) (lessR_fit a.fit) (by omega)
      have a3 := a4.ext e3
      have k1 : hfrozen h3 ⟨p, 0, none⟩ = false := frzOf a3.cells
      have k0 := cellOf (i := 0) a3.cells rfl
      have b3 := (e3.block _ (get_some_lt b4)).trans b4
      have q3 := (e3.block _ (get_some_lt q4)).trans q4
      have l0 := cellOf (i := 0) b3 rfl
      have l1 := cellOf (i := 1) b3 rfl
      have r0 := cellOf (i := 0) q3 rfl
      have r1 := cellOf (i := 1) q3 rfl
      have s0 : hfrozen h3 ⟨h.size, 0, none⟩ = false := frzOf q3
      have s1 : hfrozen h3 ⟨h.size, 1, none⟩ = false := frzOf q3
      have zq : h.size ≠ p := by omega
      have zq' : p ≠ h.size := by omega
      simp (disch := omega) [k0, k1, l0, l1, r0, r1, s0, s1, hp1, hp2, zq, zq']
      refine H1 z _ _ hbest (rupd_ans hU (Nat.le_refl _) zq fun c hc e => ?_)
      have := f3 c hc
      omega
end Go.Proofs.Ytgcllbelgakjgaa
