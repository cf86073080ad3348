/- Later: going over runs. Later: what the laws share. Later: some of the runs; the laws' arguments. Later: cuts; how much is covered, counted byte by byte. Later: what is drained, gone over; whether a byte is in one of the runs. -/
import Derived.Test.YtgcllbelgakjgaaLatD
import Derived.Test.YtgcllbelgakjgaaOpen
set_option linter.unusedSimpArgs false
set_option linter.unusedVariables false
namespace Go.Proofs.Ytgcllbelgakjgaa
open Go.Vc Go.Sort
variable {K : Value → Heap → Prop} {h : Heap}

def rsT : Nat := 22
def seqV (sb : Nat) : Value := .func (.func 62) #[] #[ptrV sb]
/-- A going over these runs. -/
structure Seq (h : Heap) (sb : Nat) (v : Value) (L : List Rn) : Prop where
  cell : h[sb]? = some (.cells #[v] rsT)
  row : OwnT runT 2 h v (L.flatMap (cell2 rnP))
  fit : Fit L
  few : L.length < 1000000
theorem Seq.mod {S : Nat → Prop} {h' : Heap} {sb : Nat} {v : Value} {L : List Rn} (a : Seq h sb v L) (m : Mod S h h') (h1 : ¬ S sb) (h2 : ∀ b, blkV v = some b → ¬ S b) : Seq h' sb v L :=
  ⟨(m.block _ (get_some_lt a.cell) h1).trans a.cell, a.row.mod m h2, a.fit, a.few⟩
theorem Seq.ext {h' : Heap} {sb : Nat} {v : Value} {L : List Rn} (a : Seq h sb v L) (e : Ext h h') : Seq h' sb v L := a.mod (S := fun _ => False) (.of_ext e) (fun x => x) (fun _ _ x => x)
theorem Seq.rns {sb : Nat} {v : Value} {L : List Rn} (a : Seq h sb v L) : Rns h v L := Rns.of a.row (by have := a.few; omega) a.fit
theorem values_c {v : Value} {L : List Rn} (o : OwnT runT 2 h v (L.flatMap (cell2 rnP))) (hf : Fit L) (hl : L.length < 1000000) (H : ∀ sb h', Ext h h' → Seq h' sb v L → h.size ≤ sb → K (seqV sb) h') : CallsH Try.prog 45 #[v] h K ⟨⟩ := by
  refine n45_calls ?_
  unfold n45
  obtain ⟨a, n, c, rfl, -, -, -⟩ := o.form (by omega)
  simp (disch := omega)
  exact H h.size _ (by repeat' (first | (with_reducible exact Ext.refl _) | (with_reducible assumption) | (with_reducible refine push_ext ?_) | (with_reducible refine hset_ext ?_ ?_) | (with_reducible refine Ext.trans ?_ (by assumption)) | omega | (simp; done) | (simp; omega) | (refine Ext.size ?_) | (refine Nat.le_succ_of_le (Ext.size ?_)))) ⟨get_pushed rfl, o.ext (by repeat' (first | (with_reducible exact Ext.refl _) | (with_reducible assumption) | (with_reducible refine push_ext ?_) | (with_reducible refine hset_ext ?_ ?_) | (with_reducible refine Ext.trans ?_ (by assumption)) | omega | (simp; done) | (simp; omega) | (refine Ext.size ?_) | (refine Nat.le_succ_of_le (Ext.size ?_)))), hf, hl⟩ (Nat.le_refl _)
theorem All_c {q : Nat} {s : Lq} {L : List Rn} (a : LqAt h q s L) (H : ∀ sb v h', Ext h h' → Seq h' sb v L → h.size ≤ sb → (∀ b, blkV v = some b → h.size ≤ b) → K (seqV sb) h') : CallsH Try.prog 22 #[ptrV q] h K ⟨⟩ := by
  refine n22_calls ?_
  unfold n22
  have hl := a.len
  refine list_c a fun v h1 e1 o1 f1 => ?_
  refine values_c o1 a.fitL (by omega) fun sb h2 e2 s2 z2 => ?_
  exact H sb v h2 (e1.trans e2) s2 (by have := e1.size; omega) f1
theorem list_n {v : Value} (a : Lno h v) (H : K (.slice none 0 0) h) : CallsH Try.prog 35 #[v] h K ⟨⟩ := by
  refine n35_calls ?_
  unfold n35
  refine noneY_c a ?_
  simp (disch := omega)
  exact H
theorem All_n {v : Value} (a : Lno h v) (H : ∀ sb h', Ext h h' → Seq h' sb (.slice none 0 0) [] → h.size ≤ sb → K (seqV sb) h') : CallsH Try.prog 22 #[v] h K ⟨⟩ := by
  refine n22_calls ?_
  unfold n22
  refine list_n a ?_
  refine values_c (L := []) .nil (fun x hx => by cases hx) (by simp) fun sb h2 e2 s2 z2 => ?_
  exact H sb h2 e2 s2 z2
theorem get_put2 {h : Heap} {b c : Nat} {o : Obj} (hb : b < h.size) : (h.setIfInBounds b o)[c]? = if c = b then some o else h[c]? := by
  by_cases e : c = b
  · subst e; rw [if_pos rfl, Array.getElem?_setIfInBounds_self_of_lt hb]
  · rw [if_neg e, Array.getElem?_setIfInBounds_ne (Ne.symm e)]

set_option maxHeartbeats 2000000 in
/-- A range over runs; a round may end it (with a return). -/
theorem RangeL {D : Value} {B : Nat → List Value → ((Heap → Prop) → Heap → Prop) → (Heap → Prop) → (Code → Heap → Prop) → Heap → Prop} {aN aR : Value → Heap → Prop} {aE : Nat → Value → Heap → Prop} {sb : Nat} {v : Value} {L : List Rn} (hs : Seq h sb v L) (Φ : Nat → Heap → Prop) (Ψ : Heap → Prop)
    (h0 : ∀ g, Ext h g → g.size = h.size + 2 → g[h.size]? = some (.deferred (some [])) → Φ 0 g) (hst : ∀ i g g', Φ i g → Ext g g' → Φ i g') (hkeep : ∀ i g, Φ i g → Seq g sb v L)
    (hround : ∀ i (hi : i < L.length) (g : Heap) (oR oB : Obj) (J : Code → Heap → Prop) (X : Heap → Prop), Φ i g → g[h.size + 1]? = some oR → isLoop oR = true → isLoop oB = true →
      (∀ g', Φ (i + 1) g' → g'[h.size + 1]? = some oR → X g') → (∀ g', Ψ g' → g'[h.size + 1]? = some oB → J .ret g') →
      B (h.size + 1) [rwA (rnP L[i])] (fun k h1 => h1[h.size + 1]? = some oR ∧ k (h1.setIfInBounds (h.size + 1) oB)) (fun h4 => h4[h.size + 1]? = some oB ∧ X (h4.setIfInBounds (h.size + 1) oR)) J g)
    (hend : ∀ g oE oR, Φ L.length g → g[h.size + 1]? = some oR → isLoop oR = true → aN (consD h.size D) (g.setIfInBounds (h.size + 1) oE))
    (hret : ∀ g oE oR, Ψ g → g[h.size + 1]? = some oR → isLoop oR = true → aR (consD h.size D) (g.setIfInBounds (h.size + 1) oE)) :
    RangeC Try.prog none (seqV sb) 1 D B aN aR aE h ⟨⟩ ⟨⟩ ⟨⟩ ⟨⟩ := by
  refine RangeC_none rfl fun oR oB oE oX oF Kp hoR hoB hrd hN hR hX => ?_
  refine InvokeH_k1 (by kernel_rfl) ?_
  refine (⟨_, rfl⟩ : ∃ g, g = (h.push (.deferred (some []))).push oR).elim fun g eg => ?_
  have zg : g.size = h.size + 2 := by simp [eg]
  have eg' : Ext h g := by rw [eg]; exact (by repeat' (first | (with_reducible exact Ext.refl _) | (with_reducible assumption) | (with_reducible refine push_ext ?_) | (with_reducible refine hset_ext ?_ ?_) | (with_reducible refine Ext.trans ?_ (by assumption)) | omega | (simp; done) | (simp; omega) | (refine Ext.size ?_) | (refine Nat.le_succ_of_le (Ext.size ?_))))
  have rD : g[h.size]? = some (.deferred (some [])) := by rw [eg, get_push (by simp), get_pushed rfl]
  have rL : g[h.size + 1]? = some oR := by rw [eg, get_pushed (by simp)]
  rw [← eg]
  have p0 := h0 g eg' zg rD
  have s1 := hs.ext eg'
  clear eg
  obtain ⟨va, vn, vc, rfl, hvl, hvc, hvne⟩ := hs.row.form (by omega)
  have hfew := hs.few
  rw [cell2_len] at hvl
  obtain rfl : vn = L.length := by omega
  have c1 := cellOf (i := 0) s1.cell rfl
  refine n62_calls ?_
  unfold n62 ptrV
  simp (disch := omega) [c1]
  refine loopX1 (α := Nat) (fun a => .int .i64 a) (fun i g' => i ≤ L.length ∧ Φ i g' ∧ g'[h.size + 1]? = some oR) (fun i => L.length - i) 0 rfl ⟨by omega, p0, rL⟩ ?_
  rintro i g' ⟨hi, hp, hl⟩ X hX'
  have hlt := get_some_lt hl
  by_cases hil : i < L.length
  · obtain ⟨ad, c', hv', -, q0, q1⟩ := Rns.cell (hkeep _ _ hp).rns hil
    obtain ⟨rfl, -⟩ : va = some ad ∧ vc = c' := by cases hv'; exact ⟨rfl, rfl⟩
    have inv : ∀ (g2 : Heap) (K0 : Value → Heap → Prop), Ext g' g2 → (∀ g3, Φ (i + 1) g3 → g3[h.size + 1]? = some oR → K0 (.bool true) g3) → (∀ g3, Ψ g3 → g3[h.size + 1]? = some oB → K0 (.bool false) (g3.setIfInBounds (h.size + 1) (oX .ret))) → InvokeH Try.prog (.func (.yield (h.size + 1)) #[] #[]) #[rwA (rnP L[i])] g2 K0 ⟨⟩ := fun g2 K0 e2 hk hj =>
      hrd [rwA (rnP L[i])] g2 K0 rfl ((e2.block _ hlt).trans hl) (hround i hil g2 oR oB _ (fun g3 => K0 (.bool true) g3) (hst _ _ _ hp e2) ((e2.block _ hlt).trans hl) hoR hoB hk (fun g3 hps hb => ⟨hb, hj g3 hps hb⟩))
    simp (disch := omega) [q0, q1]
    refine (fun key => key _ ?_ : (∀ g2, Ext g' g2 → InvokeH Try.prog (.func (.yield (h.size + 1)) #[] #[]) #[rwA (rnP L[i])] g2 _ ⟨⟩) → _) (fun g2 e2 => ?_)
    · exact (by repeat' (first | (with_reducible exact Ext.refl _) | (with_reducible assumption) | (with_reducible refine push_ext ?_) | (with_reducible refine hset_ext ?_ ?_) | (with_reducible refine Ext.trans ?_ (by assumption)) | omega | (simp; done) | (simp; omega) | (refine Ext.size ?_) | (refine Nat.le_succ_of_le (Ext.size ?_))))
    · refine inv g2 _ e2 (fun g3 p3 l3 => ?_) (fun g3 p3 l3 => ?_)
      · simp (disch := omega)
        exact hX' (i + 1) _ _ (by simp) ⟨by omega, p3, l3⟩ (by omega)
      · simp (disch := omega)
        have hb := get_some_lt l3
        refine hR _ _ (by rw [get_put2 hb, if_pos rfl]) ?_
        rw [Array.setIfInBounds_setIfInBounds]
        exact hret g3 (oF .ret) oB p3 l3 hoB
  · have : i = L.length := by omega
    subst this
    simp (disch := omega)
    refine hN _ _ hl ?_
    exact hend g' oE oR hp hl hoR
end Go.Proofs.Ytgcllbelgakjgaa
set_option linter.unusedSimpArgs false
set_option linter.unusedVariables false
namespace Go.Proofs.Ytgcllbelgakjgaa
open Go.Vc Go.Sort
variable {K : Value → Heap → Prop} {h : Heap}

theorem num_c {e : Int} (H : K (.int .i64 e) h) : CallsH Try.prog 9 #[.int .i64 e] h K ⟨⟩ := by
  refine n9_calls ?_
  unfold n9
  exact H
def drainV (b1 b2 : Nat) : Value := .func (.func 44) #[] #[ptrV b1, ptrV b2]
theorem Drain_c {q : Nat} {most : Int} (H : ∀ h', Ext h h' → h'[h.size]? = some (.cells #[ptrV q] 25) → h'[h.size + 1]? = some (.cells #[.int .i64 most] 2) → K (drainV h.size (h.size + 1)) h') : CallsH Try.prog 20 #[ptrV q, .int .i64 most] h K ⟨⟩ := by
  refine n20_calls ?_
  unfold n20 ptrV
  simp (disch := omega)
  refine H _ (by repeat' (first | (with_reducible exact Ext.refl _) | (with_reducible assumption) | (with_reducible refine push_ext ?_) | (with_reducible refine hset_ext ?_ ?_) | (with_reducible refine Ext.trans ?_ (by assumption)) | omega | (simp; done) | (simp; omega) | (refine Ext.size ?_) | (refine Nat.le_succ_of_le (Ext.size ?_)))) ?_ (get_pushed (by simp))
  rw [get_push (by simp)]
  exact get_pushed rfl
theorem rws_new2 {x y : Int × Int} (hx : i64 x.1 ∧ i64 x.2) (hy : i64 y.1 ∧ i64 y.2) : Rws (h.push (.cells #[.int .i64 x.1, .int .i64 x.2, .int .i64 y.1, .int .i64 y.2] runT)) (.slice (some ⟨h.size, 0, none⟩) 2 2) [x, y] :=
  ⟨Src_new (vs := [.int .i64 x.1, .int .i64 x.2, .int .i64 y.1, .int .i64 y.2]) rfl, ⟨_, _, rfl, Nat.le_refl _⟩, by simp, fun f hf => by simp at hf; rcases hf with rfl | rfl <;> assumption⟩
theorem rws_new1 {x : Int × Int} (hx : i64 x.1 ∧ i64 x.2) : Rws (h.push (.cells #[.int .i64 x.1, .int .i64 x.2] runT)) (.slice (some ⟨h.size, 0, none⟩) 1 1) [x] :=
  ⟨Src_new (vs := [.int .i64 x.1, .int .i64 x.2]) rfl, ⟨_, _, rfl, Nat.le_refl _⟩, by simp, fun f hf => by simp at hf; subst hf; assumption⟩
theorem may_list {l : List (Int × Int)} (h : ∀ x ∈ l, mayR x) : ∀ x ∈ l, i64 x.1 ∧ i64 x.2 := fun x hx => by
  have := h x hx
  unfold mayR at this
  unfold i64
  omega
theorem wputs1 : putR [] [(⟨0, 10⟩ : Rn), ⟨20, 5⟩] = [⟨0, 10⟩, ⟨20, 5⟩] := by rfl
theorem wputs2 : putR [(⟨0, 10⟩ : Rn), ⟨20, 5⟩] [⟨10, 10⟩] = [⟨0, 25⟩] := by rfl
theorem wless : lessR ⟨0, 4⟩ [(⟨0, 25⟩ : Rn)] = [⟨4, 21⟩] := by rfl
set_option maxHeartbeats 2000000 in
theorem works_c (H : ∀ h', Ext h h' → K (.bool true) h') : CallsH Try.prog 13 #[] h K ⟨⟩ := by
  refine n13_calls ?_
  unfold n13
  simp (disch := omega)
  have r0 : Rws (h.push (.cells #[.int .i64 0, .int .i64 10, .int .i64 20, .int .i64 5] runT)) (.slice (some ⟨h.size, 0, none⟩) 2 2) [(0, 10), (20, 5)] := rws_new2 (x := (0, 10)) (y := (20, 5)) (by unfold i64; simp) (by unfold i64; simp)
  have hm0 : ∀ x ∈ [((0 : Int), (10 : Int)), (20, 5)], mayR x := by intro x hx; simp at hx; rcases hx with rfl | rfl <;> (unfold mayR; simp)
  have e0 : Ext h (h.push (.cells #[.int .i64 0, .int .i64 10, .int .i64 20, .int .i64 5] runT)) := (by repeat' (first | (with_reducible exact Ext.refl _) | (with_reducible assumption) | (with_reducible refine push_ext ?_) | (with_reducible refine hset_ext ?_ ?_) | (with_reducible refine Ext.trans ?_ (by assumption)) | omega | (simp; done) | (simp; omega) | (refine Ext.size ?_) | (refine Nat.le_succ_of_le (Ext.size ?_))))
  refine New_c r0 (by simp) (fun h1 e1 hn => absurd hm0 hn) (fun h1 e1 _ hn => by simp [rnOf, wputs1] at hn) (fun q s h1 _ a1 e1 f1 => ?_)
  rw [show [((0 : Int), (10 : Int)), (20, 5)].map rnOf = [⟨0, 10⟩, ⟨20, 5⟩] from rfl, wputs1] at a1
  have hpq : ptrV q = .pointer (some ⟨q, 0, none⟩) := rfl
  simp (disch := omega) [hpq]
  refine num_c ?_
  simp (disch := omega)
  rw [← hpq]
  refine All_c a1 fun sb v h2 e2 s2 z2 f2 => ?_
  unfold seqV
  simp (disch := omega)
  refine Drain_c fun h3 e3 b1 b2 => ?_
  unfold drainV
  simp (disch := omega)
  have a3 := a1.ext (e2.trans e3)
  have e4 : Ext h3 (h3.push (.cells #[.int .i64 10, .int .i64 10] runT)) := (by repeat' (first | (with_reducible exact Ext.refl _) | (with_reducible assumption) | (with_reducible refine push_ext ?_) | (with_reducible refine hset_ext ?_ ?_) | (with_reducible refine Ext.trans ?_ (by assumption)) | omega | (simp; done) | (simp; omega) | (refine Ext.size ?_) | (refine Nat.le_succ_of_le (Ext.size ?_))))
  have r4 : Rws (h3.push (.cells #[.int .i64 10, .int .i64 10] runT)) (.slice (some ⟨h3.size, 0, none⟩) 1 1) [(10, 10)] := rws_new1 (x := (10, 10)) (by unfold i64; simp)
  have hm1 : ∀ x ∈ [((10 : Int), (10 : Int))], mayR x := by intro x hx; simp at hx; subst hx; unfold mayR; simp
  have E3 := (e0.trans e1).trans (e2.trans e3)
  have z3 := E3.size
  have zz1 := (e2.trans e3).size
  have hft3 : ∀ b, foot q s b → h.size ≤ b := fun b hb => by have := f1 b hb; rw [Array.size_push] at this; omega
  refine Put_c (a3.ext e4) r4 (by simp) (fun _ b hb hf => by have h8 := a3.lt hf; have h9 : some h3.size = some b := hb; cases h9; exact Nat.lt_irrefl _ h8) (fun h5 e5 hn => absurd hm1 hn) (fun h5 e5 _ hn => by simp [rnOf, wputs2] at hn) (fun s5 h5 _ u5 => ?_)
  rw [show [((10 : Int), (10 : Int))].map rnOf = [⟨10, 10⟩] from rfl, wputs2] at u5 ⊢
  simp (disch := omega)
  refine Next_c (most := 4) u5.st (by unfold i64; simp) (fun h6 e6 hn => by omega) (fun s6 h6 _ hn _ => by cases hn) (fun x L0 s6 h6 _ hL u6 => ?_)
  simp only [List.cons.injEq] at hL
  obtain ⟨rfl, rfl⟩ := hL
  have hmn : (min 25 (4 : Int).toNat) = 4 := rfl
  rw [hmn, wless] at u6
  unfold rwA rnP
  simp (disch := omega) [hmn]
  refine (⟨_, rfl⟩ : ∃ f, f = hset (hset (Array.push h6 (.cells #[.int .i64 0, .int .i64 0] runT)) ⟨h6.size, 0, none⟩ (.int .i64 0)) ⟨h6.size, 1, none⟩ (.int .i64 4)).elim fun g7 eg7 => ?_
  have e7 : Ext h6 g7 := by rw [eg7]; exact (by repeat' (first | (with_reducible exact Ext.refl _) | (with_reducible assumption) | (with_reducible refine push_ext ?_) | (with_reducible refine hset_ext ?_ ?_) | (with_reducible refine Ext.trans ?_ (by assumption)) | omega | (simp; done) | (simp; omega) | (refine Ext.size ?_) | (refine Nat.le_succ_of_le (Ext.size ?_))))
  have b7 : g7[h6.size]? = some (.cells #[.int .i64 0, .int .i64 4] runT) := by
    rw [eg7]
    refine (obj_set (obj_set (get_pushed rfl))).trans ?_
    simp
  rw [show hset (hset (Array.push h6 (.cells #[.int .i64 0, .int .i64 0] 24)) ⟨h6.size, 0, none⟩ (.int .i64 0)) ⟨h6.size, 1, none⟩ (.int .i64 4) = g7 from eg7.symm]
  clear eg7
  refine Size_c (u6.st.ext e7) fun h8 e8 => ?_
  have b8 := (e8.block _ (get_some_lt b7)).trans b7
  have k0 := cellOf (i := 0) b8 rfl
  have k1 := cellOf (i := 1) b8 rfl
  simp (disch := omega) [bytesR]
  refine num_c ?_
  simp (disch := omega) [k0, k1]
  refine num_c ?_
  simp (disch := omega)
  have u56 := u5.trans u6
  exact H _ ((u56.mod.ext_from (E3.trans e4) (fun b hb hf => by have := hft3 b hf; omega)).trans (e7.trans e8))
end Go.Proofs.Ytgcllbelgakjgaa
set_option linter.unusedSimpArgs false
set_option linter.unusedVariables false
namespace Go.Proofs.Ytgcllbelgakjgaa
open Go.Vc Go.Sort
variable {K : Value → Heap → Prop} {h : Heap}

theorem refMayT_c {x : Int × Int} (hx : i64 x.1 ∧ i64 x.2) (hm : mayR x) (H : ∀ h', Ext h h' → K (.bool true) h') : CallsH Try.prog 18 #[rwA x] h K ⟨⟩ := refMay_c hx fun h' e => by rw [decide_eq_true hm]; exact H h' e
theorem refMayF_c {x : Int × Int} (hx : i64 x.1 ∧ i64 x.2) (hm : ¬ mayR x) (H : ∀ h', Ext h h' → K (.bool false) h') : CallsH Try.prog 18 #[rwA x] h K ⟨⟩ := refMay_c hx fun h' e => by rw [decide_eq_false hm]; exact H h' e
def okS (x : Int × Int) : Bool := decide (mayR x) && decide (x.2 < 1000000)
def someL (l : List (Int × Int)) : List (Int × Int) := l.filter okS
theorem some_may {l : List (Int × Int)} : ∀ x ∈ someL l, mayR x := fun x hx => by
  have := (List.mem_filter.1 hx).2
  unfold okS at this
  simp at this
  exact this.1
theorem some_len (l : List (Int × Int)) : (someL l).length ≤ l.length := List.length_filter_le _ _
theorem some_snoc {l : List (Int × Int)} {i : Nat} (hi : i < l.length) : someL (l.take (i + 1)) = someL (l.take i) ++ (if okS l[i] = true then [l[i]] else []) := by
  rw [List.take_succ_eq_append_getElem hi]
  unfold someL
  rw [List.filter_append]
  congr 1
  by_cases hz : okS l[i] = true <;> simp [hz]
set_option maxHeartbeats 1000000 in
theorem some_c {v : Value} {l : List (Int × Int)} (rv : Rws h v l) (hl : l.length < 90000) (H : ∀ v' h', OwnT runT 2 h' v' ((someL l).flatMap rwV) → Ext h h' → (∀ b, blkV v' = some b → h.size ≤ b) → K v' h') : CallsH Try.prog 14 #[v] h K ⟨⟩ := by
  refine n14_calls ?_
  unfold n14
  obtain ⟨va, vc, rfl, hvc⟩ := rv.form
  refine loopX2 (α := Nat × Value) (fun a => a.2) (fun a => .int .i64 a.1) (fun a g => a.1 ≤ l.length ∧ Ext h g ∧ OwnT runT 2 g a.2 ((someL (l.take a.1)).flatMap rwV) ∧ ∀ b, blkV a.2 = some b → h.size ≤ b) (fun a => l.length - a.1) (0, .slice none 0 0) ⟨rfl, rfl⟩ ⟨by simp, .refl _, by simpa [someL] using OwnT.nil, (fun b hb => by cases hb)⟩ ?_
  rintro ⟨i, w⟩ g ⟨hi, eg, ow, fw⟩ X hX
  dsimp only at hi eg ow fw hX ⊢
  by_cases hin : i < l.length
  · obtain ⟨ad, c', hv', -, c0, c1⟩ := (rv.ext eg).cell hin
    obtain ⟨rfl, -⟩ : va = some ad ∧ vc = c' := by cases hv'; exact ⟨rfl, rfl⟩
    have htk := some_snoc hin
    have hok := rv.ok _ (List.getElem_mem hin)
    have hlw := some_len (l.take i)
    simp at hlw
    simp (disch := omega)
    refine JoinN.mk ?_
    refine JoinN.mk ?_
    simp (disch := omega) [c0, c1]
    have hok' := hok
    generalize l[i] = x at *
    have go : okS x = false → ∀ h2, Ext g h2 → X w (.int .i64 ((i : Int) + 1)) h2 := fun h0 h2 e2 => by
      rw [h0] at htk
      simp at htk
      exact hX (i + 1, w) _ _ _ rfl (by simp) ⟨hin, eg.trans e2, by dsimp only; rw [htk]; exact ow.ext e2, fw⟩ (by dsimp only; omega)
    unfold okS at go htk
    obtain ⟨⟨x0, x1⟩, x2, x3⟩ := hok
    by_cases hm : mayR x
    · refine refMayT_c (x := x) hok' hm fun h2 e2 => ?_
      have d0 := hcell_ext e2 c0
      have d1 := hcell_ext e2 c1
      by_cases hs : x.2 < 1000000
      · rw [decide_eq_true hm, decide_eq_true hs] at htk
        simp at htk
        simp (disch := omega) [d0, d1]
        have hbs : Ext h2 (h2.push (.cells (List.toArray [.int .i64 x.1, .int .i64 x.2]) runT)) := (by repeat' (first | (with_reducible exact Ext.refl _) | (with_reducible assumption) | (with_reducible refine push_ext ?_) | (with_reducible refine hset_ext ?_ ?_) | (with_reducible refine Ext.trans ?_ (by assumption)) | omega | (simp; done) | (simp; omega) | (refine Ext.size ?_) | (refine Nat.le_succ_of_le (Ext.size ?_))))
        refine Hp_appendT (e := runT) (s := 2) (by_ := 16) (n := (someL (l.take i)).length) (k := 1) (news := [.int .i64 x.1, .int .i64 x.2]) (by kernel_rfl) (by kernel_rfl) (ow.ext (e2.trans hbs)) (rwV_len _) (by omega) (Src_new (vs := [.int .i64 x.1, .int .i64 x.2]) rfl) (by simp [one]) (by omega) (by omega) fun v4 h4 o4 m4 f4 _ => ?_
        simp (disch := omega)
        refine hX (i + 1, v4) _ _ _ rfl (by simp) ⟨hin, m4.ext_from ((eg.trans e2).trans hbs) (fun b hb e => by have := fw b e; omega), ?_, fun b hb => (f4 b hb).elim (fw b) (fun e => Nat.le_trans ((eg.trans e2).trans hbs).size e)⟩ (by dsimp only; omega)
        dsimp only
        rw [htk, List.flatMap_append]
        exact o4
      · simp (disch := omega) [d0, d1]
        exact go (by rw [decide_eq_false hs]; simp) _ e2
    · refine refMayF_c (x := x) hok' hm fun h2 e2 => ?_
      simp (disch := omega)
      exact go (by rw [decide_eq_false hm]; simp) _ e2
  · obtain rfl : i = l.length := by omega
    rw [List.take_length] at ow
    simp (disch := omega)
    exact H w g ow eg fw
theorem own_rws {v : Value} {l : List (Int × Int)} (o : OwnT runT 2 h v (l.flatMap rwV)) (hl : l.length < 1000000) (hi : ∀ x ∈ l, i64 x.1 ∧ i64 x.2) : Rws h v l := by
  obtain ⟨a, n, c, rfl, hn, hc, hne⟩ := o.form (by omega)
  rw [rwV_len] at hn
  have hn : l.length = n := by omega
  subst hn
  refine ⟨?_, ⟨a, c, rfl, hc⟩, by omega, hi⟩
  rcases o with ⟨e, e2⟩ | ⟨b, n', c', rest, e, h1, h2, h3, h4⟩
  · injection e with e5 e6 e7
    exact .inl ⟨by rw [e5, e6, e7], e2, e6⟩
  · cases e
    refine .inr (.inl ⟨_, c, rfl, rwV_len _, fun i hi => ?_⟩)
    rw [elt_mk, Nat.zero_add, hcell_of_block h3]
    simp only [List.getElem?_toArray, Option.isSome_none, Bool.false_eq_true, if_false]
    rw [List.getElem?_append_left hi, List.getElem?_eq_getElem hi]

/-! ### How much of a run of one's own waits -/
theorem over_own {L : List Rn} {x : Rn} (hc : Vc.Can L) (hx : x ∈ L) : overR x L = x.len := by
  obtain ⟨A, B, rfl⟩ := List.append_of_mem hx
  rw [over_iv]
  exact over_self hc (Nat.le_refl _) (by omega) (Nat.le_refl _) (by omega)
theorem over_around {L : List Rn} {x y : Rn} (hc : Vc.Can L) (hx : x ∈ L) (h1 : y.at_ ≤ x.at_) (h2 : x.at_ ≤ y.at_ + 1) (h3 : x.en ≤ y.en) (h4 : y.en ≤ x.en + 1) : overR y L = x.len := by
  obtain ⟨A, B, rfl⟩ := List.append_of_mem hx
  rw [over_iv]
  exact over_self hc h1 h2 h3 h4
theorem insR_len : ∀ (L : List Rn) (x : Rn), (insR L x).length ≤ L.length + 1
  | [], x => by simp [insR]
  | y :: L, x => by
    unfold insR
    split
    · have := insR_len L x; simp; omega
    · split
      · simp
      · have := insR_len L (mergeR x y); simp; omega
theorem putR_len : ∀ (M L : List Rn), (putR L M).length ≤ L.length + M.length
  | [], L => by simp [putR]
  | x :: M, L => by
    have h1 := putR_len M (insR L x)
    have h2 := insR_len L x
    unfold putR at *
    rw [List.foldl_cons, List.length_cons]; omega

/-- Slices of elements of two cells, or one, from their elements. -/
theorem slc_seg {α : Type} {s : Nat} {a : Addr} {f : α → List Value} : ∀ (xs : List α) (k : Nat), (∀ x, (f x).length = s) → (∀ (i : Nat) (hi : i < xs.length), Seg h (elt a ((k + i) * s)) (f xs[i])) → Seg h (elt a (k * s)) (xs.flatMap f)
  | [], k, _, _ => fun i hi => by simp at hi
  | x :: xs, k, hf, H => by
    have ih := slc_seg xs (k + 1) hf (fun i hi => by
      have := H (i + 1) (by simpa using hi)
      rw [show k + 1 + i = k + (i + 1) by omega]
      simpa using this)
    have h0 := H 0 (by simp)
    intro i hi
    rw [List.flatMap_cons] at hi
    by_cases h1 : i < (f x).length
    · have := h0 i (by simpa using h1)
      simp only [Nat.add_zero, List.getElem_cons_zero] at this
      rw [this]
      simp only [List.flatMap_cons]
      rw [List.getElem_append_left h1]
    · have hl := hf x
      have := ih (i - s) (by rw [List.length_append] at hi; omega)
      rw [elt_elt, Nat.add_mul, Nat.one_mul, show k * s + s + (i - s) = k * s + i by omega] at this
      rw [elt_elt, this]
      simp only [List.flatMap_cons]
      rw [List.getElem_append_right (by omega)]
      simp only [hl]
theorem Rws.of {v : Value} {l : List (Int × Int)} (s : Slc 2 h v (fun us f => us = rwV f) l) (hl : l.length < 9223372036854775808) (ho : ∀ f ∈ l, i64 f.1 ∧ i64 f.2) : Rws h v l := by
  refine ⟨?_, ?_, hl, ho⟩
  · rcases s with ⟨rfl, rfl⟩ | ⟨a, c, rfl, h2, h3⟩
    · exact .inl ⟨rfl, rfl, rfl⟩
    · refine .inr (.inl ⟨a, c, rfl, rwV_len _, ?_⟩)
      have := slc_seg (h := h) (a := a) (s := 2) (f := rwV) l 0 (fun x => rfl) (fun i hi => by
        obtain ⟨us, -, h5, rfl⟩ := h3 i hi
        rw [Nat.zero_add]; exact h5)
      simpa using this
  · rcases s with ⟨rfl, rfl⟩ | ⟨a, c, rfl, h2, h3⟩
    · exact ⟨none, 0, rfl, Nat.le_refl _⟩
    · exact ⟨_, c, rfl, h2⟩

section
open Go Go.ChangeShapes Go.WideShapes Go.ChangeAt Go.RowKit Go.Deep
variable {H : Type} {enc : TypeId × Value → H} {w : World} {base : Nat} {sp : Nat → Bool} {held : Bool}
theorem i64_of {n : Int} (h : IntKind.i64.min ≤ n ∧ n ≤ IntKind.i64.max) : i64 n := by
  have h1 : IntKind.i64.min = -9223372036854775808 := by decide
  have h2 : IntKind.i64.max = 9223372036854775807 := by decide
  unfold i64; omega
theorem laid_run {cs : List Value} (h : Laid enc Try.prog w base sp held 24 cs) : ∃ f : Int × Int, cs = rwV f ∧ i64 f.1 ∧ i64 f.2 := by
  obtain ⟨hl, hL⟩ := h.flds (L := [(2, 0, 1), (2, 1, 1)]) (n := 2) (by kernel_rfl) (by kernel_rfl)
  obtain ⟨c0, c1, rfl⟩ := len2 hl
  obtain ⟨n0, hn0, r0, r0'⟩ := (hL 0 _ _ _ rfl).int (k := .i64) (by kernel_rfl)
  obtain rfl : c0 = .int .i64 n0 := by simpa using hn0
  obtain ⟨n1, hn1, r1, r1'⟩ := (hL 1 _ _ _ rfl).int (k := .i64) (by kernel_rfl)
  obtain rfl : c1 = .int .i64 n1 := by simpa using hn1
  exact ⟨(n0, n1), rfl, i64_of ⟨r0, r0'⟩, i64_of ⟨r1, r1'⟩⟩
theorem max63 {n : Nat} (h : n ≤ maxLen) : n < 9223372036854775808 := Nat.lt_of_le_of_lt h (by decide)
theorem slc_ok {α : Type} {s : Nat} {h : Heap} {v : Value} {R : List Value → α → Prop} {q : α → Prop} {f : α → List Value} {xs : List α} (a : Slc s h v R xs) (hR : ∀ us x, R us x → us = f x ∧ q x) : Slc s h v (fun us x => us = f x) xs ∧ ∀ x ∈ xs, q x := by
  rcases a with ⟨rfl, rfl⟩ | ⟨a, c, rfl, h2, h3⟩
  · exact ⟨.inl ⟨rfl, rfl⟩, fun x hx => by cases hx⟩
  · refine ⟨.inr ⟨a, c, rfl, h2, fun i hi => ?_⟩, fun x hx => ?_⟩
    · obtain ⟨us, h4, h5, h6⟩ := h3 i hi
      exact ⟨us, h4, h5, (hR _ _ h6).1⟩
    · obtain ⟨i, hi, rfl⟩ := List.getElem_of_mem hx
      obtain ⟨us, h4, h5, h6⟩ := h3 i hi
      exact (hR _ _ h6).2
theorem laid_runs {cs : List Value} (h : Laid enc Try.prog w base sp held 22 cs) : ∃ (v : Value) (l : List (Int × Int)), cs = [v] ∧ Rws w.heap v l := by
  obtain ⟨v, l, rfl, hs, hl⟩ := h.slice (e := 24) (R := fun us (f : Int × Int) => us = rwV f ∧ i64 f.1 ∧ i64 f.2) (by kernel_rfl) (fun us hu => laid_run hu)
  have hc : Program.cellsOf Try.prog 24 = 2 := by kernel_rfl
  rw [hc] at hs
  obtain ⟨s1, s2⟩ := slc_ok (f := rwV) hs (fun us x hx => hx)
  exact ⟨v, l, rfl, Rws.of s1 (max63 hl) s2⟩
set_option maxRecDepth 100000 in
theorem open_runs {v : Value} {r : Reach} {b0 : Nat} {ps : List MemPlace} {d : DataW H} (hval : Value.okWide Try.prog w r b0 22 v) (hd : DataW.Trod enc Try.prog w base sp held 22 v d ps) : ∃ l : List (Int × Int), Rws w.heap v l := by
  obtain ⟨v', l, hv, hs⟩ := laid_runs (Laid.top hval hd (by kernel_rfl))
  obtain rfl : v = v' := by simpa using hv
  exact ⟨l, hs⟩
end
end Go.Proofs.Ytgcllbelgakjgaa
set_option linter.unusedSimpArgs false
set_option linter.unusedVariables false
namespace Go.Proofs.Ytgcllbelgakjgaa
open Go.Vc Go.Sort
variable {K : Value → Heap → Prop} {h : Heap}

open Classical in
/-- How many of n places from a on have it. -/
noncomputable def cntP (P : Nat → Prop) : Nat → Nat → Nat
  | _, 0 => 0
  | a, n + 1 => (if P a then 1 else 0) + cntP P (a + 1) n
theorem cntP_mono {P Q : Nat → Prop} (h : ∀ p, P p → Q p) : ∀ (n a : Nat), cntP P a n ≤ cntP Q a n
  | 0, _ => Nat.le_refl _
  | n + 1, a => by
    have ih := cntP_mono h n (a + 1)
    unfold cntP
    by_cases hp : P a
    · rw [if_pos hp, if_pos (h a hp)]; omega
    · rw [if_neg hp]; omega
open Classical in
theorem ivR_step : ∀ {L : List Rn} {a b : Nat}, Vc.Can L → a < b → ivR a b L = (if Cov L a then 1 else 0) + ivR (a + 1) b L
  | [], a, b, _, _ => by rw [if_neg Cov.nil]; rfl
  | y :: L, a, b, hc, hab => by
    have ih := ivR_step (L := L) (a := a) (b := b) hc.2.2 hab
    rw [ivR_cons, ivR_cons, ih]
    have hg : Cov L a → y.en < a := fun c => hc.gap c
    have hl := hc.1
    by_cases c1 : y.at_ ≤ a ∧ a < y.en
    · have c2 : ¬ Cov L a := fun c => by have := hg c; omega
      rw [if_neg c2, if_pos (Cov.cons.2 (.inl c1))]
      omega
    · by_cases c2 : Cov L a
      · have := hg c2
        rw [if_pos c2, if_pos (Cov.cons.2 (.inr c2))]
        omega
      · rw [if_neg c2, if_neg (fun c => (Cov.cons.1 c).elim c1 c2)]
        unfold Rn.en at *
        omega
theorem ivR_cnt : ∀ (n : Nat) {L : List Rn} {a : Nat}, Vc.Can L → ivR a (a + n) L = cntP (Cov L) a n
  | 0, L, a, h => by
    have := ivR_le (l := L) (a := a) (b := a + 0) (n := 0) h (fun y _ => Nat.zero_le _)
    unfold cntP; omega
  | n + 1, L, a, h => by
    rw [ivR_step h (by omega), show a + (n + 1) = a + 1 + n by omega, ivR_cnt n h]
    rfl
theorem over_mono {x : Rn} {L M : List Rn} (hl : Vc.Can L) (hm : Vc.Can M) (h : ∀ p, Cov L p → Cov M p) : overR x L ≤ overR x M := by
  rw [over_iv, over_iv]
  unfold Rn.en
  rw [ivR_cnt _ hl, ivR_cnt _ hm]
  exact cntP_mono h _ _
theorem lessO_len2 {x y : Rn} : (lessO x y).length ≤ 2 ∧ ((lessO x y).length = 2 → x.en < y.en) := by
  unfold lessO
  rw [List.length_append]
  by_cases c1 : y.at_ < min y.en x.at_ <;> by_cases c2 : max y.at_ x.en < y.en
  · rw [if_pos c1, if_pos c2]; simp; omega
  · rw [if_pos c1, if_neg c2]; simp
  · rw [if_neg c1, if_pos c2]; simp
  · rw [if_neg c1, if_neg c2]; simp
theorem lessO_far {x y : Rn} (h : x.en ≤ y.at_) (hl : 0 < y.len) : lessO x y = [y] := by
  unfold lessO
  unfold Rn.en at *
  rw [if_neg (by omega), if_pos (by omega), List.nil_append]
  have e1 : max y.at_ (x.at_ + x.len) = y.at_ := by omega
  rw [e1]
  congr 1
  cases y
  dsimp only
  congr 1
  omega
theorem less_far {x : Rn} : ∀ {L : List Rn}, (∀ y ∈ L, x.en ≤ y.at_ ∧ 0 < y.len) → lessR x L = L ∧ overR x L = 0
  | [], _ => ⟨rfl, rfl⟩
  | y :: L, h => by
    obtain ⟨h1, h2⟩ := less_far (L := L) (fun z hz => h z (List.mem_cons_of_mem _ hz))
    obtain ⟨h3, h4⟩ := h y (by simp)
    refine ⟨?_, ?_⟩
    · unfold lessR at *
      rw [List.flatMap_cons, lessO_far h3 h4, h1]; rfl
    · unfold overR at *
      rw [List.map_cons, List.sum_cons, h2]
      unfold meet Rn.en at *
      omega
theorem lessR_len {x : Rn} : ∀ {L : List Rn}, Vc.Can L → (lessR x L).length ≤ L.length + 1
  | [], _ => by simp [lessR]
  | y :: L, h => by
    have ih := lessR_len (x := x) h.2.2
    have e : lessR x (y :: L) = lessO x y ++ lessR x L := by unfold lessR; rw [List.flatMap_cons]
    obtain ⟨h1, h2⟩ := lessO_len2 (x := x) (y := y)
    rw [e, List.length_append, List.length_cons]
    by_cases h3 : (lessO x y).length = 2
    · have h4 := h2 h3
      have := (less_far (x := x) (L := L) (fun z hz => ⟨by have := h.2.1 z hz; omega, h.2.2.pos z hz⟩)).1
      rw [this]; omega
    · omega
theorem lessR_fit {x : Rn} {L : List Rn} (hf : Fit L) : Fit (lessR x L) := fun z hz => by
  obtain ⟨y, hy, h1, h2, h3⟩ := lessR_mem hz
  have := hf y hy
  unfold Rn.en at *; omega

/-! ### Several cuts -/
def cutsR (L C : List Rn) : List Rn := C.foldl (fun l c => lessR c l) L
def meets (x : Rn) (C : List Rn) : Nat := (C.map (meet x)).sum
theorem cutsR_spec : ∀ {C L : List Rn}, Vc.Can L → (∀ c ∈ C, 0 < c.len) → Vc.Can (cutsR L C) ∧ (cutsR L C).length ≤ L.length + C.length ∧ (∀ p, Cov (cutsR L C) p → Cov L p) ∧ ∀ x, overR x L ≤ overR x (cutsR L C) + meets x C
  | [], L, h, _ => ⟨h, by simp [cutsR], fun p hp => hp, fun x => by simp [cutsR, meets]⟩
  | c :: C, L, h, hp => by
    obtain ⟨h1, h2, h3, h4⟩ := cutsR_spec (C := C) (L := lessR c L) (lessR_can (hp c (by simp)) h) (fun d hd => hp d (List.mem_cons_of_mem _ hd))
    have e : cutsR L (c :: C) = cutsR (lessR c L) C := rfl
    rw [e]
    refine ⟨h1, ?_, fun p hp' => (lessR_cov.1 (h3 p hp')).1, fun x => ?_⟩
    · have := lessR_len (x := c) h
      rw [List.length_cons]; omega
    · have h5 := h4 x
      have h6 := over_cut (x := x) (c := c) h
      have e2 : meets x (c :: C) = meet x c + meets x C := by unfold meets; rw [List.map_cons, List.sum_cons]
      rw [e2]; omega
theorem cutsR_take {L C : List Rn} {i : Nat} (hi : i < C.length) : cutsR L (C.take (i + 1)) = lessR C[i] (cutsR L (C.take i)) := by
  rw [List.take_succ_eq_append_getElem hi]
  unfold cutsR
  rw [List.foldl_append]; rfl
theorem cutsR_fit : ∀ {C L : List Rn}, Fit L → Fit (cutsR L C)
  | [], L, h => h
  | c :: C, L, h => cutsR_fit (C := C) (lessR_fit h)
theorem meets_take {x : Rn} {C : List Rn} {i : Nat} (hi : i < C.length) : meets x (C.take (i + 1)) = meets x (C.take i) + meet x C[i] := by
  rw [List.take_succ_eq_append_getElem hi]
  unfold meets
  rw [List.map_append, List.sum_append]; simp
end Go.Proofs.Ytgcllbelgakjgaa
set_option linter.unusedSimpArgs false
set_option linter.unusedVariables false
namespace Go.Proofs.Ytgcllbelgakjgaa
open Go.Vc Go.Sort
variable {K : Value → Heap → Prop} {h : Heap}

theorem holds_c {v : Value} {M : List Rn} {p : Nat} (rv : Rns h v M) (hf : Fit M) (hc : Cov M p) (hp : p ≤ 72057594037927936) (H : K (.bool true) h) : CallsH Try.prog 21 #[v, .int .i64 (p : Nat)] h K ⟨⟩ := by
  refine n21_calls ?_
  unfold n21
  obtain ⟨va, vc, rfl, hvc⟩ := Rns.form rv
  have hl := rv.few
  simp only [List.length_map] at hl
  refine loopX1 (fun i : Nat => .int .i64 i) (fun i g => g = h ∧ i ≤ M.length ∧ ∀ j (hj : j < M.length), j < i → ¬ (M[j].at_ ≤ p ∧ p < M[j].en)) (fun i => M.length - i) 0 rfl ⟨rfl, by omega, fun j _ hj => by omega⟩ ?_
  rintro i g ⟨rfl, hi, hno⟩ X hX
  by_cases hin : i < M.length
  · obtain ⟨ad, c', hv', -, c0, c1⟩ := Rns.cell rv hin
    obtain ⟨rfl, -⟩ : va = some ad ∧ vc = c' := by cases hv'; exact ⟨rfl, rfl⟩
    have hfi := hf _ (List.getElem_mem hin)
    have next : ¬ (M[i].at_ ≤ p ∧ p < M[i].en) → X (.int .i64 ((i : Int) + 1)) g := fun hh => by
      refine hX (i + 1) _ _ (by simp) ⟨rfl, hin, fun j hj hji => ?_⟩ (by omega)
      by_cases e : j = i
      · subst e; exact hh
      · exact hno j hj (by omega)
    generalize M[i] = y at *
    unfold Rn.en at hfi next
    by_cases z1 : y.at_ ≤ p
    · by_cases z2 : p < y.at_ + y.len
      · simp (disch := omega) [c0, c1]
        exact H
      · simp (disch := omega) [c0, c1]
        exact next (fun h9 => z2 h9.2)
    · simp (disch := omega) [c0, c1]
      exact next (fun h9 => z1 h9.1)
  · exfalso
    obtain ⟨y, hy, hh⟩ := hc
    obtain ⟨j, hj, rfl⟩ := List.getElem_of_mem hy
    exact hno j hj (by omega) hh

set_option maxHeartbeats 4000000 in
/-- A range over what is drained; a round may end it (with a return). -/
theorem RangeD {D : Value} {B : Nat → List Value → ((Heap → Prop) → Heap → Prop) → (Heap → Prop) → (Code → Heap → Prop) → Heap → Prop} {aN aR : Value → Heap → Prop} {aE : Nat → Value → Heap → Prop} {q b1 b2 : Nat} {most : Int} (hm1 : 1 ≤ most) (hm2 : i64 most) (s0 : Lq) (L0 : List Rn) (Φ : Lq → List Rn → Heap → Prop) (Ψ : Heap → Prop)
    (h0 : ∀ g, Ext h g → g.size = h.size + 2 → g[h.size]? = some (.deferred (some [])) → Φ s0 L0 g)
    (hkeep : ∀ s L g, Φ s L g → g[b1]? = some (.cells #[ptrV q] 25) ∧ g[b2]? = some (.cells #[.int .i64 most] 2) ∧ LqAt g q s L ∧ ¬ foot q s (h.size + 1))
    (hround : ∀ x L (g g' : Heap) (s s' : Lq) (oR oB : Obj) (J : Code → Heap → Prop) (X : Heap → Prop), Φ s (x :: L) g → LqAt g q s (x :: L) → LUpd g g' q s s' (lessR ⟨x.at_, min x.len most.toNat⟩ (x :: L)) → g'[h.size + 1]? = some oR → isLoop oR = true → isLoop oB = true →
      (∀ s2 g2, Φ s2 (lessR ⟨x.at_, min x.len most.toNat⟩ (x :: L)) g2 → g2[h.size + 1]? = some oR → X g2) → (∀ g2, Ψ g2 → g2[h.size + 1]? = some oB → J .ret g2) →
      B (h.size + 1) [rwA (rnP ⟨x.at_, min x.len most.toNat⟩)] (fun k h1 => h1[h.size + 1]? = some oR ∧ k (h1.setIfInBounds (h.size + 1) oB)) (fun h4 => h4[h.size + 1]? = some oB ∧ X (h4.setIfInBounds (h.size + 1) oR)) J g')
    (hend : ∀ g g' s s' oE oR, Φ s [] g → LqAt g q s [] → LUpd g g' q s s' [] → g'[h.size + 1]? = some oR → isLoop oR = true → aN (consD h.size D) (g'.setIfInBounds (h.size + 1) oE))
    (hret : ∀ g oE oR, Ψ g → g[h.size + 1]? = some oR → isLoop oR = true → aR (consD h.size D) (g.setIfInBounds (h.size + 1) oE)) :
    RangeC Try.prog none (drainV b1 b2) 1 D B aN aR aE h ⟨⟩ ⟨⟩ ⟨⟩ ⟨⟩ := by
  refine RangeC_none rfl fun oR oB oE oX oF Kp hoR hoB hrd hN hR hX => ?_
  refine InvokeH_1_2 (by kernel_rfl) ?_
  refine (⟨_, rfl⟩ : ∃ g, g = (h.push (.deferred (some []))).push oR).elim fun g eg => ?_
  have zg : g.size = h.size + 2 := by simp [eg]
  have eg' : Ext h g := by rw [eg]; exact (by repeat' (first | (with_reducible exact Ext.refl _) | (with_reducible assumption) | (with_reducible refine push_ext ?_) | (with_reducible refine hset_ext ?_ ?_) | (with_reducible refine Ext.trans ?_ (by assumption)) | omega | (simp; done) | (simp; omega) | (refine Ext.size ?_) | (refine Nat.le_succ_of_le (Ext.size ?_))))
  have rD : g[h.size]? = some (.deferred (some [])) := by rw [eg, get_push (by simp), get_pushed rfl]
  have rL : g[h.size + 1]? = some oR := by rw [eg, get_pushed (by simp)]
  rw [← eg]
  have p0 := h0 g eg' zg rD
  clear eg
  refine n44_calls ?_
  unfold n44 ptrV
  refine loopX0 (α := Lq × List Rn) (fun a g' => Φ a.1 a.2 g' ∧ g'[h.size + 1]? = some oR) (fun a => bytesR a.2) (s0, L0) ⟨p0, rL⟩ ?_
  rintro ⟨s, L⟩ g1 ⟨hp, hl⟩ X hX'
  dsimp only at hp hX' ⊢
  obtain ⟨c1, c2, a, nl⟩ := hkeep s L g1 hp
  have d1 := cellOf (i := 0) c1 rfl
  have d2 := cellOf (i := 0) c2 rfl
  unfold ptrV at d1
  simp (disch := omega) [d1, d2]
  refine Next_c a hm2 (fun h2 e2 hn => by omega) (fun s2 h2 _ hL u2 => ?_) (fun x L2 s2 h2 _ hL u2 => ?_)
  · subst hL
    have l2 := (u2.mod.block _ (get_some_lt hl) nl).trans hl
    unfold rwA
    simp (disch := omega)
    refine (⟨_, rfl⟩ : ∃ f, f = hset (hset (Array.push h2 (.cells #[.int .i64 0, .int .i64 0] runT)) ⟨h2.size, 0, none⟩ (.int .i64 0)) ⟨h2.size, 1, none⟩ (.int .i64 0)).elim fun gy egy => ?_
    have ey : Ext h2 gy := by rw [egy]; exact (by repeat' (first | (with_reducible exact Ext.refl _) | (with_reducible assumption) | (with_reducible refine push_ext ?_) | (with_reducible refine hset_ext ?_ ?_) | (with_reducible refine Ext.trans ?_ (by assumption)) | omega | (simp; done) | (simp; omega) | (refine Ext.size ?_) | (refine Nat.le_succ_of_le (Ext.size ?_))))
    rw [show hset (hset (Array.push h2 (.cells #[.int .i64 0, .int .i64 0] 24)) ⟨h2.size, 0, none⟩ (.int .i64 0)) ⟨h2.size, 1, none⟩ (.int .i64 0) = gy from egy.symm]
    clear egy
    have ly := (ey.block _ (get_some_lt l2)).trans l2
    refine hN _ _ ly ?_
    exact hend g1 gy s s2 oE oR hp a (u2.trans (LUpd.of_ext u2.st ey)) ly hoR
  · subst hL
    have l2 := (u2.mod.block _ (get_some_lt hl) nl).trans hl
    have hcx := a.can
    have hfx := a.fitL x (by simp)
    have hpx := hcx.1
    obtain ⟨hmm1, hmm2⟩ := hm2
    obtain ⟨n, hn⟩ : ∃ n, n = min x.len most.toNat := ⟨_, rfl⟩
    have hless : bytesR (lessR ⟨x.at_, min x.len most.toNat⟩ (x :: L2)) < bytesR (x :: L2) := by
      have h1 := lessR_bytes (x := ⟨x.at_, min x.len most.toNat⟩) (l := x :: L2)
      have h2 : 0 < overR ⟨x.at_, min x.len most.toNat⟩ (x :: L2) := by
        unfold overR meet Rn.en
        rw [List.map_cons, List.sum_cons]
        dsimp only
        omega
      omega
    have hr := hround x L2 g1
    rw [← hn] at hless hr u2 ⊢
    unfold rwA rnP at hr ⊢
    dsimp only at hr
    simp (disch := omega)
    refine (⟨_, rfl⟩ : ∃ f, f = hset (hset (Array.push h2 (.cells #[.int .i64 0, .int .i64 0] runT)) ⟨h2.size, 0, none⟩ (.int .i64 (x.at_ : Nat))) ⟨h2.size, 1, none⟩ (.int .i64 (n : Nat))).elim fun gy egy => ?_
    have ey : Ext h2 gy := by rw [egy]; exact (by repeat' (first | (with_reducible exact Ext.refl _) | (with_reducible assumption) | (with_reducible refine push_ext ?_) | (with_reducible refine hset_ext ?_ ?_) | (with_reducible refine Ext.trans ?_ (by assumption)) | omega | (simp; done) | (simp; omega) | (refine Ext.size ?_) | (refine Nat.le_succ_of_le (Ext.size ?_))))
    rw [show hset (hset (Array.push h2 (.cells #[.int .i64 0, .int .i64 0] 24)) ⟨h2.size, 0, none⟩ (.int .i64 (x.at_ : Nat))) ⟨h2.size, 1, none⟩ (.int .i64 (n : Nat)) = gy from egy.symm]
    clear egy
    have ly := (ey.block _ (get_some_lt l2)).trans l2
    have inv : ∀ (K0 : Value → Heap → Prop), (∀ s3 g3, Φ s3 (lessR ⟨x.at_, n⟩ (x :: L2)) g3 → g3[h.size + 1]? = some oR → K0 (.bool true) g3) → (∀ g3, Ψ g3 → g3[h.size + 1]? = some oB → K0 (.bool false) (g3.setIfInBounds (h.size + 1) (oX .ret))) → InvokeH Try.prog (.func (.yield (h.size + 1)) #[] #[]) #[.agg #[.int .i64 (x.at_ : Nat), .int .i64 (n : Nat)]] gy K0 ⟨⟩ := fun K0 hk hj =>
      hrd [.agg #[.int .i64 (x.at_ : Nat), .int .i64 (n : Nat)]] gy K0 rfl ly (hr gy s s2 oR oB _ (fun g3 => K0 (.bool true) g3) hp a (u2.trans (LUpd.of_ext u2.st ey)) ly hoR hoB hk (fun g3 hps hb => ⟨hb, hj g3 hps hb⟩))
    refine inv _ (fun s3 g3 p3 l3 => ?_) (fun g3 p3 l3 => ?_)
    · simp (disch := omega)
      exact hX' (s3, _) _ ⟨p3, l3⟩ hless
    · simp (disch := omega)
      have hb := get_some_lt l3
      refine hR _ _ (by rw [get_put2 hb, if_pos rfl]) ?_
      rw [Array.setIfInBounds_setIfInBounds]
      exact hret g3 (oF .ret) oB p3 l3 hoB
/-- One run put. -/
theorem Put1_c {q m : Nat} {s : Lq} {L : List Rn} {x : Rn} (hm : m = h.size) (a : LqAt h q s L) (hx : 0 < x.len) (hf : x.en ≤ 72057594037927936) (hl : L.length < 4096)
    (H : ∀ s' h', LUpd h h' q s s' (insR L x) → K (.tuple #[.int .i64 ((bytesR (insR L x) : Int) - (bytesR L : Int)), .int .i64 0]) h') :
    CallsH Try.prog 10 #[ptrV q, .slice (some ⟨m, 0, none⟩) 1 1] (h.push (.cells #[.int .i64 (x.at_ : Nat), .int .i64 (x.len : Nat)] 24)) K ⟨⟩ := by
  subst hm
  unfold Rn.en at hf
  have hx2 : i64 (rnP x).1 ∧ i64 (rnP x).2 := by unfold rnP i64; dsimp only; omega
  have hmx : mayR (rnP x) := by unfold rnP mayR; dsimp only; omega
  have hofx : rnOf (rnP x) = x := by unfold rnOf rnP; simp
  have e11 : Ext h (h.push (.cells #[.int .i64 (x.at_ : Nat), .int .i64 (x.len : Nat)] runT)) := (by repeat' (first | (with_reducible exact Ext.refl _) | (with_reducible assumption) | (with_reducible refine push_ext ?_) | (with_reducible refine hset_ext ?_ ?_) | (with_reducible refine Ext.trans ?_ (by assumption)) | omega | (simp; done) | (simp; omega) | (refine Ext.size ?_) | (refine Nat.le_succ_of_le (Ext.size ?_))))
  have r11 : Rws (h.push (.cells #[.int .i64 (x.at_ : Nat), .int .i64 (x.len : Nat)] runT)) (.slice (some ⟨h.size, 0, none⟩) 1 1) [rnP x] := rws_new1 (x := rnP x) hx2
  have hm1 : ∀ y ∈ [rnP x], mayR y := fun y hy => by simp at hy; subst hy; exact hmx
  have hpR : putR L ([rnP x].map rnOf) = insR L x := by simp only [List.map_cons, List.map_nil, hofx]; rfl
  have hlR := insR_len L x
  refine Put_c (a.ext e11) r11 (by simp) (fun _ b hb hf => by have h8 := a.lt hf; have h9 : some h.size = some b := hb; cases h9; exact Nat.lt_irrefl _ h8) (fun h12 e12 hn => absurd hm1 hn) (fun h12 e12 _ hn => by rw [hpR] at hn; omega) (fun s12 h12 _ u12 => ?_)
  rw [hpR] at u12 ⊢
  exact H s12 h12 ((LUpd.of_ext a e11).trans u12)
end Go.Proofs.Ytgcllbelgakjgaa
