/- Later: the heap of runs, and its methods. Later: the heap of runs, kept in order. Later: a queue; an empty one; runs added. Later: a queue made of runs; a queue's runs. Later: what the maps tell when a run changes. -/
import Derived.Test.YtgcllbelgakjgaaLatA
import Derived.Test.YtgcllbelgakjgaaHeapG
import Derived.Test.YtgcllbelgakjgaaVcMapL
set_option linter.unusedSimpArgs false
set_option linter.unusedVariables false
namespace Go.Proofs.Ytgcllbelgakjgaa
open Go.Vc Go.Sort
variable {K : Value → Heap → Prop} {h : Heap}

def prT : Nat := 69
def laT : Nat := 76
def firstV : Value := .func (.func 52) #[] #[]
/-- A run that is kept, and its block. -/
structure Ent where
  b : Nat
  r : Rn
instance : Inhabited Ent := ⟨⟨0, default⟩⟩
def ltE (x y : Ent) : Bool := decide (x.r.at_ < y.r.at_)
theorem swo_ltE : SWO ltE := by
  refine ⟨fun x => ?_, fun x y z => ?_, fun x y z => ?_⟩ <;> unfold ltE
  · simp
  · simp only [decide_eq_true_eq]; omega
  · simp only [decide_eq_false_iff_not]; omega
def rowE (E : List Ent) : List Value := E.map fun e => ptrV e.b
def EntAt (h : Heap) (e : Ent) : Prop := h[e.b]? = some (.cells #[.int .i64 (e.r.at_ : Nat), .int .i64 (e.r.len : Nat)] runT)
theorem EntAt.c0 {e : Ent} (a : EntAt h e) : hcell h ⟨e.b, 0, none⟩ = some (.int .i64 (e.r.at_ : Nat)) := cellOf a rfl
theorem EntAt.c1 {e : Ent} (a : EntAt h e) : hcell h ⟨e.b, 1, none⟩ = some (.int .i64 (e.r.len : Nat)) := cellOf a rfl
theorem EntAt.mod {S : Nat → Prop} {h' : Heap} {e : Ent} (a : EntAt h e) (m : Mod S h h') (hS : ¬ S e.b) : EntAt h' e := (m.block _ (get_some_lt a) hS).trans a
theorem EntAt.ext {h' : Heap} {e : Ent} (a : EntAt h e) (m : Ext h h') : EntAt h' e := (m.block _ (get_some_lt a)).trans a
structure HpAt (h : Heap) (q : Nat) (B C v : Value) (E : List Ent) : Prop where
  cells : h[q]? = some (.cells #[v, firstV, B, C] laT)
  row : OwnT prT 1 h v (rowE E)
  rq : ∀ e ∈ E, EntAt h e
  few : E.length < 100000
theorem HpAt.ext {h' : Heap} {q : Nat} {B C v : Value} {E : List Ent} (s : HpAt h q B C v E) (e : Ext h h') : HpAt h' q B C v E :=
  ⟨(e.block _ (get_some_lt s.cells)).trans s.cells, s.row.ext e, fun x hx => (s.rq x hx).ext e, s.few⟩
theorem HpAt.form {q : Nat} {B C v : Value} {E : List Ent} (s : HpAt h q B C v E) : ∃ a c, v = .slice a E.length c ∧ E.length ≤ c ∧ (E ≠ [] → ∃ b, a = some ⟨b, 0, none⟩) := by
  obtain ⟨a, n, c, rfl, hn, hc, hne⟩ := s.row.form (by omega)
  have : n = E.length := by simp [rowE] at hn; omega
  subst this
  exact ⟨a, c, rfl, hc, fun hE => hne (by simpa [rowE] using hE)⟩
theorem prT_ne1 : prT ≠ laT := by decide
theorem prT_ne2 : prT ≠ runT := by decide
theorem laT_ne : laT ≠ runT := by decide
theorem HpAt.cell {q : Nat} {B C v : Value} {E : List Ent} (s : HpAt h q B C v E) {i : Nat} (hi : i < E.length) : ∃ b c, v = .slice (some ⟨b, 0, none⟩) E.length c ∧ E.length ≤ c ∧ hcell h (elt ⟨b, 0, none⟩ i) = some (.pointer (some ⟨(E[i]).b, 0, none⟩)) ∧ hfrozen h (elt ⟨b, 0, none⟩ i) = false := by
  obtain ⟨a, c, rfl, hc, hne⟩ := s.form
  obtain ⟨b, rfl⟩ := hne (fun e => by subst e; simp at hi)
  have := s.row.elt (i := i) (by simpa [rowE] using hi)
  exact ⟨b, c, rfl, hc, this.1.trans (by simp [rowE, ptrV]), this.2⟩
theorem HpAt.ne {q : Nat} {B C v : Value} {E : List Ent} (s : HpAt h q B C v E) {e : Ent} (he : e ∈ E) : e.b ≠ q ∧ blkV v ≠ some e.b := by
  have := s.rq e he
  refine ⟨fun x => ?_, fun x => s.row.ne x this prT_ne2 rfl⟩
  unfold EntAt at this
  rw [x, s.cells] at this
  injection this with this; injection this with _ this; exact absurd this laT_ne
theorem HpAt.vq {q b : Nat} {B C v : Value} {E : List Ent} (s : HpAt h q B C v E) (hb : blkV v = some b) : b ≠ q := s.row.ne hb s.cells prT_ne1

def hpV (q : Nat) : Value := .iface 95 (.pointer (some ⟨q, 0, none⟩))
theorem RLen {a : Addr} (H : CallsH Try.prog 59 #[.pointer (some a)] h K ⟨⟩) : MethodH Try.prog (.iface 95 (.pointer (some a))) "Len" #[] h K ⟨⟩ := by
  refine ⟨?_⟩
  have e : methodP Try.prog (.iface 95 (.pointer (some a))) "Len" #[] h K = CallsH Try.prog 59 #[.pointer (some a)] h K ⟨⟩ := by kernel_rfl
  rw [e]; exact H
theorem RPop {a : Addr} (H : CallsH Try.prog 103 #[.pointer (some a)] h K ⟨⟩) : MethodH Try.prog (.iface 95 (.pointer (some a))) "Pop" #[] h K ⟨⟩ := by
  refine ⟨?_⟩
  have e : methodP Try.prog (.iface 95 (.pointer (some a))) "Pop" #[] h K = CallsH Try.prog 103 #[.pointer (some a)] h K ⟨⟩ := by kernel_rfl
  rw [e]; exact H
theorem RPush {a : Addr} {x : Value} (H : CallsH Try.prog 104 #[.pointer (some a), x] h K ⟨⟩) : MethodH Try.prog (.iface 95 (.pointer (some a))) "Push" #[x] h K ⟨⟩ := by
  refine ⟨?_⟩
  have e : methodP Try.prog (.iface 95 (.pointer (some a))) "Push" #[x] h K = CallsH Try.prog 104 #[.pointer (some a), x] h K ⟨⟩ := by kernel_rfl
  rw [e]; exact H
theorem RLess {a : Addr} {x y : Value} (H : CallsH Try.prog 102 #[.pointer (some a), x, y] h K ⟨⟩) : MethodH Try.prog (.iface 95 (.pointer (some a))) "Less" #[x, y] h K ⟨⟩ := by
  refine ⟨?_⟩
  have e : methodP Try.prog (.iface 95 (.pointer (some a))) "Less" #[x, y] h K = CallsH Try.prog 102 #[.pointer (some a), x, y] h K ⟨⟩ := by kernel_rfl
  rw [e]; exact H
theorem RSwap {a : Addr} {x y : Value} (H : CallsH Try.prog 105 #[.pointer (some a), x, y] h K ⟨⟩) : MethodH Try.prog (.iface 95 (.pointer (some a))) "Swap" #[x, y] h K ⟨⟩ := by
  refine ⟨?_⟩
  have e : methodP Try.prog (.iface 95 (.pointer (some a))) "Swap" #[x, y] h K = CallsH Try.prog 105 #[.pointer (some a), x, y] h K ⟨⟩ := by kernel_rfl
  rw [e]; exact H

theorem len_m {q : Nat} {B C v : Value} {E : List Ent} (s : HpAt h q B C v E) (H : K (.int .i64 E.length) h) : CallsH Try.prog 59 #[.pointer (some ⟨q, 0, none⟩)] h K ⟨⟩ := by
  obtain ⟨a, c, rfl, hc, hne⟩ := s.form
  have c0 := cellOf (i := 0) s.cells rfl
  refine n59_calls ?_
  unfold n59
  simp (disch := omega) [c0]
  exact H
theorem less_m {q i j : Nat} {B C v : Value} {E : List Ent} (s : HpAt h q B C v E) (hi : i < E.length) (hj : j < E.length) (H : K (.bool (ltE E[i] E[j])) h) :
    CallsH Try.prog 102 #[.pointer (some ⟨q, 0, none⟩), .int .i64 i, .int .i64 j] h K ⟨⟩ := by
  obtain ⟨b, c, hv, hc, ci, -⟩ := s.cell hi
  obtain ⟨b', c', hv', -, cj, -⟩ := s.cell hj
  have e : b' = b := by rw [hv] at hv'; cases hv'; rfl
  subst e
  have hcl := s.cells
  rw [hv] at hcl
  have c0 := cellOf (i := 0) hcl rfl
  have c1 := cellOf (i := 1) hcl rfl
  have ei := s.rq _ (List.getElem_mem hi)
  have ej := s.rq _ (List.getElem_mem hj)
  refine n102_calls ?_
  unfold n102
  unfold firstV at c1
  simp (disch := omega) [c0, c1, ci, cj]
  refine InvokeH_f2 (by kernel_rfl) ?_
  refine n52_calls ?_
  unfold n52
  have di := ei.c0
  have dj := ej.c0
  simp (disch := omega) [di, dj]
  unfold ltE at H
  refine Split.mk (fun e => ?_) (fun e => ?_)
  · rw [decide_eq_true (by omega)] at H; exact H
  · rw [decide_eq_false (by omega)] at H; exact H
theorem swap_m {q i j : Nat} {B C v : Value} {E : List Ent} (s : HpAt h q B C v E) (hi : i < E.length) (hj : j < E.length) (H : ∀ h', HpAt h' q B C v (swapE E i j) → Mod (fun b => blkV v = some b) h h' → K (.tuple #[]) h') :
    CallsH Try.prog 105 #[.pointer (some ⟨q, 0, none⟩), .int .i64 i, .int .i64 j] h K ⟨⟩ := by
  obtain ⟨b, c, hv, hc, ci, fi⟩ := s.cell hi
  obtain ⟨b', c', hv', -, cj, fj⟩ := s.cell hj
  have e : b' = b := by rw [hv] at hv'; cases hv'; rfl
  subst e
  have hcl := s.cells
  have hrow := s.row
  rw [hv] at hcl hrow
  have c0 := cellOf (i := 0) hcl rfl
  refine n105_calls ?_
  unfold n105
  have hl : (rowE E).length = E.length := by simp [rowE]
  have hbq : b' ≠ q := s.vq (by rw [hv]; rfl)
  have r1 := hrow.setE (i := i) (by omega) (u := .pointer (some ⟨E[j].b, 0, none⟩))
  have cj2 := r1.elt (i := j) (by simp; omega)
  have r2 := r1.setE (i := j) (by simp; omega) (u := .pointer (some ⟨E[i].b, 0, none⟩))
  have c0' : hcell (hset h (elt ⟨b', 0, none⟩ i) (.pointer (some ⟨E[j].b, 0, none⟩))) ⟨q, 0, none⟩ = some (.slice (some ⟨b', 0, none⟩) E.length c) := by
    rw [hcell_set_if, if_neg (fun e => hbq (by have := congrArg Addr.block e; simpa using this))]; exact c0
  simp (disch := omega) [c0, ci, fi, cj, fj, cj2.1, cj2.2, c0']
  have hE : ((rowE E).set i (.pointer (some ⟨E[j].b, 0, none⟩))).set j (.pointer (some ⟨E[i].b, 0, none⟩)) = rowE (swapE E i j) := by
    unfold swapE
    rw [atE_get hi, atE_get hj]
    simp [rowE, ptrV, List.map_set]
  rw [hE] at r2
  have m : Mod (fun x => blkV v = some x) h (hset (hset h (elt ⟨b', 0, none⟩ i) (.pointer (some ⟨E[j].b, 0, none⟩))) (elt ⟨b', 0, none⟩ j) (.pointer (some ⟨E[i].b, 0, none⟩))) := by
    refine Mod.setIn (Mod.setIn (Mod.refl _ _) (.inl ?_)) (.inl ?_) <;> simp [hv, blkV]
  refine H _ ⟨(m.block q (get_some_lt s.cells) (fun x => s.vq x rfl)).trans s.cells, ?_, fun x hx => ?_, by rw [swapE_len]; exact s.few⟩ m
  · rw [hv]; exact r2
  · have hxE : x ∈ E := (swapE_perm hi hj).mem_iff.1 hx
    exact (s.rq x hxE).mod m (s.ne hxE).2
theorem push_m {q : Nat} {B C v : Value} {E : List Ent} {x : Ent} (s : HpAt h q B C v E) (hx : EntAt h x) (hf : E.length + 1 < 100000)
    (H : ∀ v' h', HpAt h' q B C v' (E ++ [x]) → Mod (fun b => b = q ∨ blkV v = some b) h h' → (∀ b, blkV v' = some b → blkV v = some b ∨ h.size ≤ b) → K (.tuple #[]) h') :
    CallsH Try.prog 104 #[.pointer (some ⟨q, 0, none⟩), .iface prT (ptrV x.b)] h K ⟨⟩ := by
  obtain ⟨a, c, rfl, hc, hne⟩ := s.form
  refine n104_calls ?_
  unfold n104 ptrV prT
  have c0 := cellOf (i := 0) s.cells rfl
  have hpl := get_some_lt s.cells
  have hbs : Ext h (h.push (.cells (List.toArray [ptrV x.b]) prT)) := (by repeat' (first | (with_reducible exact Ext.refl _) | (with_reducible assumption) | (with_reducible refine push_ext ?_) | (with_reducible refine hset_ext ?_ ?_) | (with_reducible refine Ext.trans ?_ (by assumption)) | omega | (simp; done) | (simp; omega) | (refine Ext.size ?_) | (refine Nat.le_succ_of_le (Ext.size ?_))))
  have c2 := cellOf (i := 0) (h := h.push (.cells (List.toArray [ptrV x.b]) prT)) ((hbs.block q hpl).trans s.cells) rfl
  unfold ptrV prT at c2
  simp (disch := omega) [c0, Hp_assert (P := Try.prog) (t := 69) (by kernel_rfl), c2]
  have hl : (rowE E).length = E.length := by simp [rowE]
  refine Hp_appendT (e := prT) (s := 1) (by_ := 8) (n := E.length) (k := 1) (news := [ptrV x.b]) (by kernel_rfl) (by kernel_rfl) (s.row.ext hbs) (by rw [hl, Nat.mul_one]) (by omega) (Src_new (vs := [ptrV x.b]) rfl) (by simp [one, ptrV]) (by omega) (by omega) fun v' h3 hO hM hF _ => ?_
  have hne : ∀ b, blkV (.slice a E.length c) = some b → b ≠ q := fun b hb => s.vq hb
  have c3 := (hM.block q (by simp; omega) (fun e => hne _ e rfl)).trans ((hbs.block q hpl).trans s.cells)
  have c4 := cellOf (i := 0) c3 rfl
  have c5 := frzOf (i := 0) c3
  obtain ⟨a', n', c', rfl, -, -, -⟩ := hO.form (by omega)
  simp (disch := omega) [c4, c5]
  have hM2 : Mod (fun b => b = q ∨ blkV (.slice a E.length c) = some b) h (hset h3 ⟨q, 0, none⟩ (.slice a' n' c')) :=
    Mod.setIn ((Mod.of_ext hbs).trans (hM.mono (fun b _ e => .inr e)) (fun _ _ e => e)) (.inl (.inl rfl))
  have hf' : ∀ b, blkV (.slice a' n' c') = some b → blkV (.slice a E.length c) = some b ∨ h.size ≤ b := fun b hb => (hF b hb).imp id (fun e => by simp at e; omega)
  have hpn : ∀ b, blkV (.slice a' n' c') = some b → b ≠ q := fun b hb => hO.ne hb c3 prT_ne1
  refine H _ _ ⟨obj_set c3, ?_, fun y hy => ?_, by simpa using hf⟩ hM2 hf'
  · have := hO.mod (Mod.set h3 ⟨q, 0, none⟩ (.slice a' n' c')) (fun b hb e => hpn b hb e)
    simpa [rowE] using this
  · rcases List.mem_append.1 hy with e | e
    · exact (s.rq y e).mod hM2 (fun x => x.elim (s.ne e).1 (s.ne e).2)
    · simp at e; subst e
      refine hx.mod hM2 ?_
      rintro (e | e)
      · unfold EntAt at hx
        rw [e, s.cells] at hx
        injection hx with hx; injection hx with _ hx; exact absurd hx laT_ne
      · exact s.row.ne e hx prT_ne2 rfl
theorem pop_m {q : Nat} {B C v : Value} {E : List Ent} {x : Ent} (s : HpAt h q B C v (E ++ [x]))
    (H : ∀ v' h', HpAt h' q B C v' E → EntAt h' x → Mod (· = q) h h' → (∀ b, blkV v' = some b → blkV v = some b) → K (.iface prT (ptrV x.b)) h') :
    CallsH Try.prog 103 #[.pointer (some ⟨q, 0, none⟩)] h K ⟨⟩ := by
  obtain ⟨b, c, hv, hc, ci, fi⟩ := s.cell (i := E.length) (by simp)
  refine n103_calls ?_
  unfold n103
  have hcl := s.cells
  have hrow := s.row
  rw [hv] at hcl hrow
  have hlen : (E ++ [x]).length = E.length + 1 := by simp
  have hfew := s.few
  have hge : (E ++ [x])[E.length]'(by simp) = x := by simp
  rw [hge] at ci
  rw [hlen] at hcl hc hrow hfew
  have c0 := cellOf (i := 0) hcl rfl
  have f0 := frzOf (i := 0) hcl
  have hi1 : (((E.length + 1 : Nat) : Int) - 1) = (E.length : Int) := by omega
  simp (disch := omega) [c0, f0, ci, Hp_mkIface (P := Try.prog) (t := 69) (by kernel_rfl)]
  have m : Mod (· = q) h (hset h ⟨q, 0, none⟩ (.slice (some ⟨b, 0, none⟩) E.length c)) := Mod.set h ⟨q, 0, none⟩ _
  have hbq : b ≠ q := s.vq (by rw [hv]; rfl)
  refine H _ _ ⟨obj_set hcl, ?_, fun y hy => (s.rq y (List.mem_append_left _ hy)).mod m (s.ne (List.mem_append_left _ hy)).1, by omega⟩ ((s.rq x (by simp)).mod m (s.ne (by simp)).1) m (fun b' hb' => by rw [hv]; exact hb')
  have := (hrow.shrink (k := E.length) (by omega)).mod m (fun b' hb' e => by cases hb'; exact hbq e)
  rw [Nat.mul_one] at this
  have e2 : (rowE (E ++ [x])).take E.length = rowE E := by simp [rowE, List.map_append, List.take_append_of_le_length]
  rw [e2] at this
  exact this
end Go.Proofs.Ytgcllbelgakjgaa
set_option linter.unusedSimpArgs false
set_option linter.unusedVariables false
namespace Go.Proofs.Ytgcllbelgakjgaa
open Go.Vc Go.Sort
variable {K : Value → Heap → Prop} {h : Heap}

/-- The heap of runs somewhere behind h0; only W has changed. -/
def HpS (h0 : Heap) (q : Nat) (B C : Value) (W : Nat → Prop) (h : Heap) (E : List Ent) : Prop :=
  ∃ v, HpAt h q B C v E ∧ Mod W h0 h ∧ ∀ b, blkV v = some b → W b ∨ h0.size ≤ b
theorem HpS.hi {h0 : Heap} {q : Nat} {B C : Value} {W : Nat → Prop} : HI ltE (HpS h0 q B C W) (hpV q) where
  few := fun ⟨v, s, _⟩ => s.few
  len := fun ⟨v, s, _⟩ H => RLen (len_m s H)
  less := fun {h E K i j} ⟨v, s, _⟩ hi hj H => RLess (less_m s hi hj (by rw [atE_get hi, atE_get hj] at H; exact H))
  swap := fun ⟨v, s, m, hv⟩ hi hj H => RSwap (swap_m s hi hj fun h' s' m' => H h' ⟨v, s', m.trans m' (fun b hb e => (hv b e).resolve_right (by omega)), hv⟩)
def hpW (q : Nat) (v : Value) (b : Nat) : Prop := b = q ∨ blkV v = some b
theorem HpAt.s {q : Nat} {B C v : Value} {E : List Ent} (s : HpAt h q B C v E) : HpS h q B C (hpW q v) h E := ⟨v, s, .refl _ _, fun b hb => .inl (.inr hb)⟩

theorem rpush_c {q : Nat} {B C v : Value} {E : List Ent} {x : Ent} (s : HpAt h q B C v E) (hx : EntAt h x) (hf : E.length + 1 < 100000) (hmax : ∀ y ∈ E, y.r.at_ ≤ x.r.at_)
    (H : ∀ v' h', HpAt h' q B C v' (E ++ [x]) → Mod (hpW q v) h h' → (∀ b, blkV v' = some b → blkV v = some b ∨ h.size ≤ b) → K (.tuple #[]) h') :
    CallsH Try.prog 66 #[hpV q, .iface prT (ptrV x.b)] h K ⟨⟩ := by
  refine n66_calls ?_
  unfold n66
  refine RPush (push_m s hx hf fun v' h1 s1 m1 f1 => ?_)
  refine RLen (len_m s1 ?_)
  have hl : (E ++ [x]).length = E.length + 1 := by simp
  rw [hl]
  have e1 : (((E.length + 1 : Nat) : Int) - 1) = (E.length : Int) := by omega
  simp (disch := omega)
  refine hup_c (HpS.hi) s1.s (by omega) ?_ (H v' h1 s1 m1 f1)
  by_cases h0 : E.length = 0
  · exact .inl h0
  · refine .inr ?_
    unfold okE
    rw [atE_get (by omega), atE_get (by omega), List.getElem_append_right (Nat.le_refl _), List.getElem_append_left (by omega)]
    have := hmax _ (List.getElem_mem (show (E.length - 1) / 2 < E.length by omega))
    unfold ltE
    simp; omega
theorem rpop_c {q : Nat} {B C v : Value} {E : List Ent} (s : HpAt h q B C v E) (hE : E ≠ []) (ho : HOkE ltE E E.length 0)
    (H : ∀ v' h' E', (E' ++ [atE E 0]).Perm E → (∀ y ∈ E, (atE E 0).r.at_ ≤ y.r.at_) → HOkE ltE E' E'.length 0 → HpAt h' q B C v' E' → EntAt h' (atE E 0) → Mod (hpW q v) h h' → (∀ b, blkV v' = some b → blkV v = some b ∨ h.size ≤ b) → K (.iface prT (ptrV (atE E 0).b)) h') :
    CallsH Try.prog 60 #[hpV q] h K ⟨⟩ := by
  refine hpop_c HpS.hi swo_ltE s.s hE ho fun h1 x E' s1 hp hx hmin ho' => ?_
  subst hx
  obtain ⟨v1, s1, m1, f1⟩ := s1
  refine RPop (pop_m s1 fun v2 h2 s2 x2 m2 f2 => ?_)
  refine H v2 h2 E' hp (fun y hy => ?_) ho' s2 x2 (m1.trans m2 (fun _ _ e => .inl e)) (fun b hb => ?_)
  · have := hmin y hy
    unfold ltE at this
    simpa using this
  · rcases f1 b (f2 b hb) with (e | e) | e
    · exact absurd e (s1.vq (f2 b hb))
    · exact .inl e
    · exact .inr e
theorem rfix_c {q : Nat} {B C v : Value} {E : List Ent} (s : HpAt h q B C v E) (hE : E ≠ []) (hd : DownE ltE E E.length 0 0)
    (H : ∀ v' h' E', E'.Perm E → HOkE ltE E' E'.length 0 → HpAt h' q B C v' E' → Mod (hpW q v) h h' → (∀ b, blkV v' = some b → blkV v = some b ∨ h.size ≤ b) → K (.tuple #[]) h') :
    CallsH Try.prog 61 #[hpV q, .int .i64 (0 : Int)] h K ⟨⟩ := by
  refine hfix0_c HpS.hi swo_ltE s.s hE hd fun h1 E' s1 hp ho' => ?_
  obtain ⟨v1, s1, m1, f1⟩ := s1
  refine H v1 h1 E' hp ho' s1 m1 fun b hb => ?_
  rcases f1 b hb with (e | e) | e
  · exact absurd e (s1.vq hb)
  · exact .inl e
  · exact .inr e
end Go.Proofs.Ytgcllbelgakjgaa
set_option linter.unusedSimpArgs false
set_option linter.unusedVariables false
namespace Go.Proofs.Ytgcllbelgakjgaa
open Go.Vc Go.Sort
variable {K : Value → Heap → Prop} {h : Heap}

theorem laKey : KeyT Try.prog 74 Int (.int .i64) := KeyT.int (by kernel_rfl)
structure Lq where
  hl : Value
  E : List Ent
  mf : Nat
  mt : Nat
/-- What a map of beginnings, or ends, tells. -/
def Tabs (f : Rn → Nat) (E : List Ent) (F : List (Int × Value)) : Prop := ∀ k v, look2 k F = some v ↔ ∃ e ∈ E, 0 < e.r.len ∧ (f e.r : Int) = k ∧ v = ptrV e.b
def lives (E : List Ent) : List Ent := E.filter fun e => decide (0 < e.r.len)
structure LqAt (h : Heap) (q : Nat) (s : Lq) (L : List Rn) : Prop where
  hp : HpAt h q (.map (some s.mf)) (.map (some s.mt)) s.hl s.E
  fm : ∃ F, MapK (κ := Int) (.int .i64) h s.mf F ∧ Tabs Rn.at_ s.E F
  tm : ∃ F, MapK (κ := Int) (.int .i64) h s.mt F ∧ Tabs Rn.en s.E F
  mne : s.mf ≠ s.mt
  blks : (s.E.map (·.b)).Nodup
  ord : HOkE ltE s.E s.E.length 0
  live : ((lives s.E).map (·.r)).Perm L
  can : Vc.Can L
  fit : ∀ e ∈ s.E, e.r.at_ ≤ 72057594037927936 ∧ e.r.en ≤ 72057594037927936
  few : s.E.length ≤ 4096
def foot (q : Nat) (s : Lq) (b : Nat) : Prop := b = q ∨ b = s.mf ∨ b = s.mt ∨ blkV s.hl = some b ∨ ∃ e ∈ s.E, e.b = b
theorem LqAt.lt {q b : Nat} {s : Lq} {L : List Rn} (a : LqAt h q s L) (hb : foot q s b) : b < h.size := by
  rcases hb with rfl | rfl | rfl | e | ⟨e, he, rfl⟩
  · exact get_some_lt a.hp.cells
  · obtain ⟨F, m, -⟩ := a.fm; exact m.lt
  · obtain ⟨F, m, -⟩ := a.tm; exact m.lt
  · exact a.hp.row.lt e
  · exact get_some_lt (a.hp.rq e he)
theorem HpAt.mod {S : Nat → Prop} {h' : Heap} {q : Nat} {B C v : Value} {E : List Ent} (s : HpAt h q B C v E) (m : Mod S h h') (h1 : ¬ S q) (h2 : ∀ b, blkV v = some b → ¬ S b) (h3 : ∀ e ∈ E, ¬ S e.b) : HpAt h' q B C v E :=
  ⟨(m.block _ (get_some_lt s.cells) h1).trans s.cells, s.row.mod m h2, fun x hx => (s.rq x hx).mod m (h3 x hx), s.few⟩
theorem LqAt.mod {S : Nat → Prop} {h' : Heap} {q : Nat} {s : Lq} {L : List Rn} (a : LqAt h q s L) (m : Mod S h h') (hS : ∀ b, foot q s b → ¬ S b) : LqAt h' q s L := by
  obtain ⟨F, m1, t1⟩ := a.fm
  obtain ⟨G, m2, t2⟩ := a.tm
  exact ⟨a.hp.mod m (hS _ (.inl rfl)) (fun b hb => hS b (.inr (.inr (.inr (.inl hb))))) (fun e he => hS _ (.inr (.inr (.inr (.inr ⟨e, he, rfl⟩))))), ⟨F, m1.mod m (hS _ (.inr (.inl rfl))), t1⟩, ⟨G, m2.mod m (hS _ (.inr (.inr (.inl rfl)))), t2⟩, a.mne, a.blks, a.ord, a.live, a.can, a.fit, a.few⟩
theorem LqAt.ext {h' : Heap} {q : Nat} {s : Lq} {L : List Rn} (a : LqAt h q s L) (e : Ext h h') : LqAt h' q s L := a.mod (S := fun _ => False) (.of_ext e) (fun _ _ x => x)
theorem LqAt.mapne {q m : Nat} {s : Lq} {L : List Rn} (a : LqAt h q s L) (hm : m = s.mf ∨ m = s.mt) : m ≠ q ∧ blkV s.hl ≠ some m ∧ ∀ e ∈ s.E, e.b ≠ m := by
  obtain ⟨es, cl, hh⟩ : ∃ es cl, h[m]? = some (.map es cl) := by
    obtain ⟨F, ⟨es, cl, h1, _⟩, -⟩ := a.fm
    obtain ⟨G, ⟨es2, cl2, h2, _⟩, -⟩ := a.tm
    rcases hm with rfl | rfl
    · exact ⟨_, _, h1⟩
    · exact ⟨_, _, h2⟩
  refine ⟨fun e => ?_, fun e => a.hp.row.neM e hh rfl, fun e he x => ?_⟩
  · rw [e, a.hp.cells] at hh; cases hh
  · have := a.hp.rq e he
    unfold EntAt at this
    rw [x, hh] at this; cases this
theorem LqAt.len {q : Nat} {s : Lq} {L : List Rn} (a : LqAt h q s L) : L.length ≤ 4096 := by
  have h1 := a.live.length_eq
  have h2 := List.length_filter_le (fun e : Ent => decide (0 < e.r.len)) s.E
  have h3 := a.few
  simp [lives] at h1
  omega
theorem LqAt.fitL {q : Nat} {s : Lq} {L : List Rn} (a : LqAt h q s L) : Fit L := fun x hx => by
  obtain ⟨e, he, rfl⟩ := List.mem_map.1 (a.live.mem_iff.2 hx)
  exact a.fit e (List.mem_filter.1 he).1
/-- The queue has changed; nothing but its own blocks. -/
structure LUpd (h h' : Heap) (q : Nat) (s s' : Lq) (L' : List Rn) : Prop where
  st : LqAt h' q s' L'
  mod : Mod (foot q s) h h'
  foot : ∀ b, foot q s' b → foot q s b ∨ h.size ≤ b
theorem LUpd.refl {q : Nat} {s : Lq} {L : List Rn} (a : LqAt h q s L) : LUpd h h q s s L := ⟨a, .refl _ _, fun _ e => .inl e⟩
theorem LUpd.trans {h1 h2 : Heap} {q : Nat} {x y z : Lq} {L M : List Rn} (u : LUpd h h1 q x y L) (v : LUpd h1 h2 q y z M) : LUpd h h2 q x z M := by
  have hs := u.mod.size
  refine ⟨v.st, u.mod.trans v.mod (fun b hb hy => (u.foot b hy).resolve_right (by omega)), fun b hb => ?_⟩
  rcases v.foot b hb with h3 | h3
  · exact u.foot b h3
  · exact .inr (by omega)
theorem LUpd.of_ext {h' : Heap} {q : Nat} {s : Lq} {L : List Rn} (a : LqAt h q s L) (e : Ext h h') : LUpd h h' q s s L := ⟨a.ext e, .of_ext e, fun _ x => .inl x⟩

/-! ### Is there one? -/
def Lno (h : Heap) (v : Value) : Prop := v = .pointer none ∨ ∃ q, v = ptrV q ∧ h[q]? = some (.cells #[.slice none 0 0, .nilFunc, .map none, .map none] laT)
theorem Lno.ext {h' : Heap} {v : Value} (a : Lno h v) (e : Ext h h') : Lno h' v := by
  rcases a with a | ⟨q, a, b⟩
  · exact .inl a
  · exact .inr ⟨q, a, (e.block _ (get_some_lt b)).trans b⟩
theorem noneY_c {v : Value} (a : Lno h v) (H : K (.bool true) h) : CallsH Try.prog 30 #[v] h K ⟨⟩ := by
  refine n30_calls ?_
  unfold n30
  rcases a with rfl | ⟨q, rfl, hq⟩
  · simp (disch := omega)
    exact H
  · have c2 := cellOf (i := 2) hq rfl
    unfold ptrV
    simp (disch := omega) [c2]
    exact H
theorem noneN_c {q m : Nat} {x y z : Value} (hq : h[q]? = some (.cells #[x, y, .map (some m), z] laT)) (H : K (.bool false) h) : CallsH Try.prog 30 #[ptrV q] h K ⟨⟩ := by
  refine n30_calls ?_
  unfold n30 ptrV
  have c2 := cellOf (i := 2) hq rfl
  simp (disch := omega) [c2]
  exact H
theorem empty_c (H : ∀ q mf mt h', Ext h h' → h.size ≤ mf → h.size ≤ mt → h.size ≤ q → LqAt h' q ⟨.slice none 0 0, [], mf, mt⟩ [] → K (ptrV q) h') : CallsH Try.prog 29 #[] h K ⟨⟩ := by
  refine n29_calls ?_
  unfold n29
  rw [Hp_makeMap]
  simp (disch := omega)
  rw [Hp_makeMap]
  simp (disch := omega)
  refine (Hp_store (by kernel_rfl) rfl).2 ?_
  simp (disch := omega)
  refine (⟨_, rfl⟩ : ∃ f, f = ((Array.push h (.map #[] 0)).push (.map #[] 0)).push (.cells #[.slice none 0 0, .nilFunc, .map (some h.size), .map (some (h.size + 1))] laT)).elim fun g eg => ?_
  have e0 : Ext h g := by rw [eg]; exact (by repeat' (first | (with_reducible exact Ext.refl _) | (with_reducible assumption) | (with_reducible refine push_ext ?_) | (with_reducible refine hset_ext ?_ ?_) | (with_reducible refine Ext.trans ?_ (by assumption)) | omega | (simp; done) | (simp; omega) | (refine Ext.size ?_) | (refine Nat.le_succ_of_le (Ext.size ?_))))
  have q0 : g[h.size + 1 + 1]? = some (.cells #[.slice none 0 0, .nilFunc, .map (some h.size), .map (some (h.size + 1))] laT) := by rw [eg]; exact get_pushed (by simp)
  have f0 : MapK (κ := Int) (.int .i64) g h.size [] := by
    have : MapK (κ := Int) (.int .i64) (h.push (.map #[] 0)) h.size [] := MapK.new rfl
    rw [eg]
    exact (this.ext (push_ext (.refl _))).ext (push_ext (.refl _))
  have t0 : MapK (κ := Int) (.int .i64) g (h.size + 1) [] := by
    have : MapK (κ := Int) (.int .i64) ((h.push (.map #[] 0)).push (.map #[] 0)) (h.size + 1) [] := MapK.new (by simp)
    rw [eg]
    exact this.ext (push_ext (.refl _))
  rw [show ((Array.push h (.map #[] 0)).push (.map #[] 0)).push (.cells #[.slice none 0 0, .nilFunc, .map (some h.size), .map (some (h.size + 1))] 76) = g from eg.symm]
  clear eg
  have m := Mod.set g ⟨h.size + 1 + 1, 1, none⟩ (.func (.func 52) #[] #[])
  have z0 := e0.size
  refine H _ h.size (h.size + 1) _ (m.ext_from e0 (fun b hb e => by have e' : b = h.size + 1 + 1 := e; omega)) (by omega) (by omega) (by omega) ⟨⟨obj_set q0, .inl ⟨rfl, rfl⟩, (fun e he => by cases he), by simp⟩, ⟨[], f0.mod m (by simp; omega), fun k v => by simp [look2]⟩, ⟨[], t0.mod m (by simp), fun k v => by simp [look2]⟩, by simp, by simp, fun i _ hi => absurd hi (Nat.not_lt_zero _), .nil, trivial, (fun e he => by cases he), by simp⟩

/-! ### One run more -/
theorem tabs_add {f : Rn → Nat} {E : List Ent} {F : List (Int × Value)} {x : Ent} (t : Tabs f E F) (hx : 0 < x.r.len) (hn : ∀ e ∈ E, 0 < e.r.len → f e.r ≠ f x.r) : Tabs f (E ++ [x]) (upd (f x.r : Int) (ptrV x.b) F) := by
  intro k v
  rw [look2_upd]
  by_cases e : k = (f x.r : Int)
  · rw [if_pos e]
    constructor
    · intro h
      cases h
      exact ⟨x, by simp, hx, e.symm, rfl⟩
    · rintro ⟨y, hy, h1, h2, h3⟩
      rcases List.mem_append.1 hy with hy | hy
      · exact absurd (by omega) (hn y hy h1)
      · simp at hy; subst hy; rw [h3]
  · rw [if_neg e, t k v]
    constructor
    · rintro ⟨y, hy, h1⟩
      exact ⟨y, by simp [hy], h1⟩
    · rintro ⟨y, hy, h1, h2, h3⟩
      rcases List.mem_append.1 hy with hy | hy
      · exact ⟨y, hy, h1, h2, h3⟩
      · simp at hy; subst hy; exact absurd h2.symm e
theorem can_snoc {L : List Rn} {x : Rn} (h : Vc.Can L) (hx : 0 < x.len) (hb : ∀ y ∈ L, y.en < x.at_) : Vc.Can (L ++ [x]) :=
  can_app h ⟨hx, (fun y hy => by cases hy), trivial⟩ (fun y hy z hz => by simp at hz; subst hz; exact hb y hy)
set_option maxHeartbeats 1000000 in
theorem add_c {q : Nat} {s : Lq} {L : List Rn} {x : Rn} (a : LqAt h q s L) (hx : 0 < x.len) (hf : x.en ≤ 72057594037927936) (hb : ∀ e ∈ s.E, 0 < e.r.len ∧ e.r.en < x.at_) (hfew : s.E.length + 1 ≤ 4096)
    (H : ∀ s' h', LUpd h h' q s s' (L ++ [x]) → s'.E.map (·.r) = s.E.map (·.r) ++ [x] → K (.tuple #[]) h') : CallsH Try.prog 58 #[ptrV q, rwA (rnP x)] h K ⟨⟩ := by
  refine n58_calls ?_
  unfold n58 rwA rnP ptrV
  have hxa : x.at_ ≤ 72057594037927936 := by unfold Rn.en at hf; omega
  simp (disch := omega)
  refine (⟨_, rfl⟩ : ∃ f, f = (h.push (.cells #[.int .i64 (x.at_ : Nat), .int .i64 (x.len : Nat)] runT)).push (.cells #[.int .i64 (x.at_ : Nat), .int .i64 (x.len : Nat)] runT)).elim fun g eg => ?_
  have e0 : Ext h g := by rw [eg]; exact (by repeat' (first | (with_reducible exact Ext.refl _) | (with_reducible assumption) | (with_reducible refine push_ext ?_) | (with_reducible refine hset_ext ?_ ?_) | (with_reducible refine Ext.trans ?_ (by assumption)) | omega | (simp; done) | (simp; omega) | (refine Ext.size ?_) | (refine Nat.le_succ_of_le (Ext.size ?_))))
  have q0 : g[h.size + 1]? = some (.cells #[.int .i64 (x.at_ : Nat), .int .i64 (x.len : Nat)] runT) := by rw [eg]; exact get_pushed (by simp)
  rw [show (h.push (.cells #[.int .i64 (x.at_ : Nat), .int .i64 (x.len : Nat)] 24)).push (.cells #[.int .i64 (x.at_ : Nat), .int .i64 (x.len : Nat)] 24) = g from eg.symm]
  clear eg
  have aG := a.ext e0
  have xG : EntAt g ⟨h.size + 1, x⟩ := q0
  have hlt := xG
  simp (disch := omega) [Hp_mkIface (P := Try.prog) (t := 95) (by kernel_rfl), Hp_mkIface (P := Try.prog) (t := 69) (by kernel_rfl)]
  refine rpush_c (x := ⟨h.size + 1, x⟩) aG.hp xG (by omega) (fun y hy => by have := (hb y hy).2; unfold Rn.en at this; dsimp only; omega) fun v1 h1 s1 m1 f1 => ?_
  have x1 := s1.rq ⟨h.size + 1, x⟩ (by simp)
  have k0 := x1.c0
  have k1 := x1.c1
  have c1 := cellOf (i := 2) s1.cells rfl
  dsimp only at k0 k1
  simp (disch := omega) [c1, k0]
  obtain ⟨F, mF, tF⟩ := aG.fm
  obtain ⟨G, mG, tG⟩ := aG.tm
  have nF := aG.mapne (.inl rfl)
  have nG := aG.mapne (.inr rfl)
  have hz := e0.size
  have F1 := mF.mod m1 (fun e => e.elim nF.1 nF.2.1)
  have G1 := mG.mod m1 (fun e => e.elim nG.1 nG.2.1)
  refine Hp_mapUpdate laKey F1 fun h2 F2 m2 => ?_
  have hxF : h.size + 1 ≠ s.mf := fun e => by
    have := mF.lt
    obtain ⟨es, cl, h3, _⟩ := mF
    rw [← e] at h3; unfold EntAt at xG; rw [xG] at h3; cases h3
  have hxG : h.size + 1 ≠ s.mt := fun e => by
    obtain ⟨es, cl, h3, _⟩ := mG
    rw [← e] at h3; unfold EntAt at xG; rw [xG] at h3; cases h3
  have x2 : EntAt h2 ⟨h.size + 1, x⟩ := x1.mod m2 hxF
  have c2 : h2[q]? = _ := (m2.block q (get_some_lt s1.cells) (Ne.symm nF.1)).trans s1.cells
  have G2 := G1.mod m2 (Ne.symm a.mne)
  have k2 := x2.c0
  have k3 := x2.c1
  have d2 := cellOf (i := 3) c2 rfl
  dsimp only at k2 k3
  unfold Rn.en at hf
  simp (disch := omega) [d2, k2, k3]
  have hen : ((x.at_ : Int) + (x.len : Int)) = ((x.en : Nat) : Int) := by unfold Rn.en; omega
  rw [hen]
  refine Hp_mapUpdate laKey G2 fun h3 G3 m3 => ?_
  have s3 : HpAt h3 q (.map (some s.mf)) (.map (some s.mt)) v1 (s.E ++ [⟨h.size + 1, x⟩]) := by
    have hE : ∀ e ∈ s.E ++ [(⟨h.size + 1, x⟩ : Ent)], e.b ≠ s.mf ∧ e.b ≠ s.mt := fun e he => by
      rcases List.mem_append.1 he with he | he
      · exact ⟨nF.2.2 e he, nG.2.2 e he⟩
      · simp at he; subst he; exact ⟨hxF, hxG⟩
    have hv : ∀ b, blkV v1 = some b → b ≠ s.mf ∧ b ≠ s.mt := fun b hb => by
      obtain ⟨es, cl, h4, _⟩ := F1
      obtain ⟨es', cl', h5, _⟩ := G1
      exact ⟨s1.row.neM hb h4, s1.row.neM hb h5⟩
    exact (s1.mod m2 (Ne.symm nF.1) (fun b hb => (hv b hb).1) (fun e he => (hE e he).1)).mod m3 (Ne.symm nG.1) (fun b hb => (hv b hb).2) (fun e he => (hE e he).2)
  have hl9 : ∀ e ∈ s.E, e.b < h.size := fun e he => get_some_lt (a.hp.rq e he)
  have hnew : ∀ e ∈ s.E, 0 < e.r.len → e.r.at_ ≠ x.at_ ∧ e.r.en ≠ x.en := fun e he _ => by
    have := (hb e he).2
    unfold Rn.en at *
    omega
  have hlv : lives (s.E ++ [(⟨h.size + 1, x⟩ : Ent)]) = lives s.E ++ [⟨h.size + 1, x⟩] := by
    unfold lives
    rw [List.filter_append]
    simp [hx]
  have hLb : ∀ y ∈ L, y.en < x.at_ := fun y hy => by
    obtain ⟨e, he, rfl⟩ := List.mem_map.1 (a.live.mem_iff.2 hy)
    exact (hb e (List.mem_filter.1 he).1).2
  refine H ⟨v1, s.E ++ [⟨h.size + 1, x⟩], s.mf, s.mt⟩ h3 ⟨⟨s3, ⟨_, F2.mod m3 a.mne, tabs_add tF hx (fun e he hl => (hnew e he hl).1)⟩, ⟨_, G3, tabs_add tG hx (fun e he hl => (hnew e he hl).2)⟩, a.mne, ?_, ?_, ?_, can_snoc a.can hx hLb, ?_, by simpa using hfew⟩, ?_, ?_⟩ (by simp)
  · rw [List.map_append, List.map_cons, List.map_nil, List.nodup_append]
    refine ⟨a.blks, by simp, fun b hb' c hc => ?_⟩
    obtain ⟨e, he, rfl⟩ := List.mem_map.1 hb'
    simp at hc; subst hc
    have := hl9 e he
    omega
  · intro k k0 hk _
    simp at hk
    unfold okE
    by_cases hke : k < s.E.length
    · have := a.ord k k0 hke (Nat.zero_le _)
      unfold okE at this
      rw [atE_get (by simp; omega), atE_get (by simp; omega), List.getElem_append_left hke, List.getElem_append_left (by omega)]
      rwa [atE_get hke, atE_get (by omega)] at this
    · have : k = s.E.length := by omega
      subst this
      rw [atE_get (by simp), atE_get (by simp; omega), List.getElem_append_right (Nat.le_refl _), List.getElem_append_left (by omega)]
      have := (hb _ (List.getElem_mem (show (s.E.length - 1) / 2 < s.E.length by omega))).2
      unfold ltE Rn.en at *
      simp; omega
  · rw [hlv, List.map_append]
    exact a.live.append (.refl _)
  · intro e he
    rcases List.mem_append.1 he with he | he
    · exact a.fit e he
    · simp at he; subst he; unfold Rn.en; dsimp only; omega
  · refine (((Mod.of_ext e0).trans m1 fun b _ e => ?_).trans m2 fun b _ e => ?_).trans m3 fun b _ e => ?_
    · exact e.elim .inl (fun e => .inr (.inr (.inr (.inl e))))
    · exact .inr (.inl e)
    · exact .inr (.inr (.inl e))
  · rintro b (rfl | rfl | rfl | e | ⟨e, he, rfl⟩)
    · exact .inl (.inl rfl)
    · exact .inl (.inr (.inl rfl))
    · exact .inl (.inr (.inr (.inl rfl)))
    · rcases f1 b e with h9 | h9
      · exact .inl (.inr (.inr (.inr (.inl h9))))
      · exact .inr (by omega)
    · rcases List.mem_append.1 he with he | he
      · exact .inl (.inr (.inr (.inr (.inr ⟨e, he, rfl⟩))))
      · simp at he; subst he; exact .inr (by dsimp only; omega)
end Go.Proofs.Ytgcllbelgakjgaa
set_option linter.unusedSimpArgs false
set_option linter.unusedVariables false
namespace Go.Proofs.Ytgcllbelgakjgaa
open Go.Vc Go.Sort
variable {K : Value → Heap → Prop} {h : Heap}

theorem Rws.mod {S : Nat → Prop} {h' : Heap} {v : Value} {l : List (Int × Int)} (a : Rws h v l) (m : Mod S h h') (hS : ∀ b, blkV v = some b → ¬ S b) : Rws h' v l := by
  refine ⟨?_, a.form, a.few, a.ok⟩
  rcases a.src with e | ⟨ad, c, rfl, e2, e3⟩ | ⟨l, rfl, e⟩
  · exact .inl e
  · refine .inr (.inl ⟨ad, c, rfl, e2, e3.mod m (hS _ rfl)⟩)
  · obtain ⟨_, _, e, _⟩ := a.form; cases e
theorem stLa {a : Go.Addr} {w : Value} {x y : Option Nat} {p : Option Go.Addr} {m n : Nat} : Hp Try.prog false (storeS 76 (.pointer (some a)) (.agg #[.slice p m n, firstV, .map x, .map y])) K h ⟨⟩ ↔ storesP a 0 [.slice p m n, firstV, .map x, .map y] (K undef) h :=
  Hp_storeAgg (vs := [.slice p m n, firstV, .map x, .map y]) (by kernel_rfl) (by simp [one, firstV])
set_option maxHeartbeats 1000000 in
theorem set_c {q : Nat} {w0 w1 w2 w3 v : Value} {L : List Rn} (hq : h[q]? = some (.cells #[w0, w1, w2, w3] laT)) (hv : Rns h v L) (hvq : ∀ b, blkV v = some b → b < h.size ∧ b ≠ q) (hc : Vc.Can L) (hf : Fit L) (hl : L.length ≤ 4096)
    (H : ∀ s' h', LqAt h' q s' L → Mod (· = q) h h' → (∀ b, foot q s' b → b = q ∨ h.size ≤ b) → K (.tuple #[]) h') :
    CallsH Try.prog 38 #[ptrV q, v] h K ⟨⟩ := by
  refine n38_calls ?_
  unfold n38
  obtain ⟨va, vc, rfl, hvc⟩ := Rns.form hv
  refine empty_c fun q1 mf mt h1 e1 zf zt zq a1 => ?_
  have hql := get_some_lt hq
  have hq1 := (e1.block _ hql).trans hq
  have c0 := cellOf (i := 0) a1.hp.cells rfl
  have c1 := cellOf (i := 1) a1.hp.cells rfl
  have c2 := cellOf (i := 2) a1.hp.cells rfl
  have c3 := cellOf (i := 3) a1.hp.cells rfl
  have d0 := cellOf (i := 0) hq1 rfl
  have d1 := cellOf (i := 1) hq1 rfl
  have d2 := cellOf (i := 2) hq1 rfl
  have d3 := cellOf (i := 3) hq1 rfl
  have f0 := frzOf (i := 0) hq1
  have f1 := frzOf (i := 1) hq1
  have f2 := frzOf (i := 2) hq1
  have f3 := frzOf (i := 3) hq1
  dsimp only at c0 c1 c2 c3
  unfold ptrV
  simp (disch := omega) [c0, c1, c2, c3]
  rw [stLa (w := .pointer none)]
  unfold firstV
  simp (disch := omega) [d0, d1, d2, d3, f0, f1, f2, f3]
  refine (⟨_, rfl⟩ : ∃ f, f = hset (hset (hset (hset h1 ⟨q, 0, none⟩ (.slice none 0 0)) ⟨q, 1, none⟩ (.func (.func 52) #[] #[])) ⟨q, 2, none⟩ (.map (some mf))) ⟨q, 3, none⟩ (.map (some mt))).elim fun h2 eh2 => ?_
  have q2 : h2[q]? = some (.cells #[.slice none 0 0, firstV, .map (some mf), .map (some mt)] laT) := by
    rw [eh2]
    refine (obj_set (obj_set (obj_set (obj_set hq1)))).trans ?_
    simp [firstV]
  have m2 : Mod (· = q) h1 h2 := by
    rw [eh2]
    exact Mod.setIn (Mod.setIn (Mod.setIn (Mod.setIn (Mod.refl (· = q) h1) (.inl rfl)) (.inl rfl)) (.inl rfl)) (.inl rfl)
  rw [← eh2]
  clear eh2
  have z1 := e1.size
  have a2 : LqAt h2 q ⟨.slice none 0 0, [], mf, mt⟩ [] := by
    obtain ⟨F, mF, tF⟩ := a1.fm
    obtain ⟨G, mG, tG⟩ := a1.tm
    exact ⟨⟨q2, .inl ⟨rfl, rfl⟩, (fun e he => by cases he), by simp⟩, ⟨F, mF.mod m2 (by dsimp only at *; omega), tF⟩, ⟨G, mG.mod m2 (by dsimp only at *; omega), tG⟩, a1.mne, by simp, fun i _ hi => absurd hi (Nat.not_lt_zero _), .nil, trivial, (fun e he => by cases he), by simp⟩
  have M2 : Mod (· = q) h h2 := (Mod.of_ext e1).trans m2 (fun _ _ e => e)
  refine loopX1 (α := Nat × Lq) (fun a => .int .i64 a.1) (fun a g => a.1 ≤ L.length ∧ LUpd h2 g q ⟨.slice none 0 0, [], mf, mt⟩ a.2 (L.take a.1) ∧ a.2.E.map (·.r) = L.take a.1) (fun a => L.length - a.1) (0, ⟨.slice none 0 0, [], mf, mt⟩) rfl ⟨by simp, LUpd.refl a2, by simp⟩ ?_
  rintro ⟨i, s⟩ g ⟨hi, u, hE⟩ X hX
  dsimp only at hi u hE hX ⊢
  have hft : ∀ b, foot q ⟨.slice none 0 0, [], mf, mt⟩ b → b = q ∨ h.size ≤ b := by
    rintro b (rfl | rfl | rfl | e | ⟨e, he, -⟩)
    · exact .inl rfl
    · exact .inr zf
    · exact .inr zt
    · cases e
    · cases he
  have Mg : Mod (· = q) h g := M2.trans u.mod (fun b hb e => (hft b e).resolve_right (by omega))
  have z2 := M2.size
  by_cases hin : i < L.length
  · obtain ⟨ad, c', hv', -, r0, r1⟩ := Rns.cell (hv.mod Mg (fun b hb => (hvq b hb).2)) hin
    obtain ⟨rfl, -⟩ : va = some ad ∧ vc = c' := by cases hv'; exact ⟨rfl, rfl⟩
    simp (disch := omega) [r0, r1]
    refine (⟨_, rfl⟩ : ∃ f, f = hset (hset (Array.push g (.cells #[.int .i64 0, .int .i64 0] runT)) ⟨g.size, 0, none⟩ (.int .i64 (L[i].at_ : Nat))) ⟨g.size, 1, none⟩ (.int .i64 (L[i].len : Nat))).elim fun g0 eg0 => ?_
    have e0 : Ext g g0 := by rw [eg0]; exact (by repeat' (first | (with_reducible exact Ext.refl _) | (with_reducible assumption) | (with_reducible refine push_ext ?_) | (with_reducible refine hset_ext ?_ ?_) | (with_reducible refine Ext.trans ?_ (by assumption)) | omega | (simp; done) | (simp; omega) | (refine Ext.size ?_) | (refine Nat.le_succ_of_le (Ext.size ?_))))
    rw [show hset (hset (Array.push g (.cells #[.int .i64 0, .int .i64 0] 24)) ⟨g.size, 0, none⟩ (.int .i64 (L[i].at_ : Nat))) ⟨g.size, 1, none⟩ (.int .i64 (L[i].len : Nat)) = g0 from eg0.symm]
    clear eg0
    have hsplit : L = L.take i ++ L[i] :: L.drop (i + 1) := by rw [List.getElem_cons_drop, List.take_append_drop]
    have hmid := can_mid (A := L.take i) (B := L.drop (i + 1)) (x := L[i]) (by rw [← hsplit]; exact hc)
    have hlE : s.E.length = i := by have := congrArg List.length hE; simp at this; omega
    refine add_c (x := L[i]) (u.st.ext e0) hmid.2.1 (hf _ (List.getElem_mem hin)).2 (fun e he => ?_) (by omega) fun s4 h4 u4 hE4 => ?_
    · have hm : e.r ∈ L.take i := by rw [← hE]; exact List.mem_map_of_mem he
      exact ⟨hc.pos _ (List.mem_of_mem_take hm), hmid.2.2.1 _ hm⟩
    · simp (disch := omega)
      have htk : L.take (i + 1) = L.take i ++ [L[i]] := List.take_succ_eq_append_getElem hin
      refine hX (i + 1, s4) _ _ (by simp) ⟨hin, ?_, by dsimp only; rw [htk, ← hE]; exact hE4⟩ (by dsimp only; omega)
      dsimp only
      rw [htk]
      exact (u.trans (LUpd.of_ext u.st e0)).trans u4
  · obtain rfl : i = L.length := by omega
    simp (disch := omega)
    rw [List.take_length] at u
    refine H s g u.st Mg fun b hb => ?_
    rcases u.foot b hb with e | e
    · exact hft b e
    · exact .inr (by omega)

/-! ### The runs of a queue -/
theorem rise_can {L : List Rn} : Vc.Can L → Rise L := by
  induction L with
  | nil => exact fun _ => .nil
  | cons x L ih => exact fun h => .cons (fun y hy => by have := h.2.1 y hy; unfold Rn.en at this; omega) (ih h.2.2)
theorem can_inj {L : List Rn} (hc : Vc.Can L) : ∀ x ∈ L, ∀ y ∈ L, x.at_ = y.at_ → x = y := by
  induction L with
  | nil => intro x hx; cases hx
  | cons z L ih =>
    intro x hx y hy e
    have hb := hc.2.1
    have hz := hc.1
    rcases List.mem_cons.1 hx with e1 | hx' <;> rcases List.mem_cons.1 hy with e2 | hy'
    · rw [e1, e2]
    · have := hb y hy'; rw [← e1] at this hz; unfold Rn.en at this; omega
    · have := hb x hx'; rw [← e2] at this hz; unfold Rn.en at this; omega
    · exact ih hc.2.2 x hx' y hy' e
theorem rise_eq {L M : List Rn} (hp : M.Perm L) (hr : Rise M) (hc : Vc.Can L) : M = L :=
  hp.eq_of_pairwise (fun a b ha hb h1 h2 => can_inj hc a (hp.mem_iff.1 ha) b hb (Nat.le_antisymm h1 h2)) hr (rise_can hc)
set_option maxHeartbeats 1000000 in
theorem list_c {q : Nat} {s : Lq} {L : List Rn} (a : LqAt h q s L) (H : ∀ v h', Ext h h' → OwnT runT 2 h' v (L.flatMap (cell2 rnP)) → (∀ b, blkV v = some b → h.size ≤ b) → K v h') :
    CallsH Try.prog 35 #[ptrV q] h K ⟨⟩ := by
  refine n35_calls ?_
  unfold n35
  refine noneN_c a.hp.cells ?_
  obtain ⟨ha, hc, hv, hhc, -⟩ := a.hp.form
  have c0 := cellOf (i := 0) a.hp.cells rfl
  rw [hv] at c0
  have hfew := a.few
  unfold ptrV
  simp (disch := omega) [c0]
  refine loopX2 (α := Nat × Value) (fun a => a.2) (fun a => .int .i64 a.1) (fun a' g => a'.1 ≤ s.E.length ∧ Ext h g ∧ OwnT runT 2 g a'.2 (((lives (s.E.take a'.1)).map (·.r)).flatMap (cell2 rnP)) ∧ ∀ b, blkV a'.2 = some b → h.size ≤ b) (fun a => s.E.length - a.1) (0, .slice none 0 0) ⟨rfl, rfl⟩ ⟨by simp, .refl _, by simpa [lives] using OwnT.nil, (fun b hb => by cases hb)⟩ ?_
  rintro ⟨i, w⟩ g ⟨hi, eg, ow, fw⟩ X hX
  dsimp only at hi eg ow fw hX ⊢
  by_cases hin : i < s.E.length
  · have ag := a.hp.ext eg
    obtain ⟨b, c, hv', -, ci, -⟩ := ag.cell hin
    have hab : ha = some ⟨b, 0, none⟩ := by rw [hv] at hv'; cases hv'; rfl
    subst hab
    have ei := ag.rq _ (List.getElem_mem hin)
    have k0 := ei.c0
    have k1 := ei.c1
    have htk : lives (s.E.take (i + 1)) = lives (s.E.take i) ++ (if 0 < s.E[i].r.len then [s.E[i]] else []) := by
      rw [List.take_succ_eq_append_getElem hin]
      unfold lives
      rw [List.filter_append]
      congr 1
      by_cases hz : 0 < s.E[i].r.len <;> simp [hz]
    simp (disch := omega)
    refine JoinN.mk ?_
    refine JoinN.mk ?_
    by_cases hz : 0 < s.E[i].r.len
    · rw [if_pos hz] at htk
      simp (disch := omega) [ci, k0, k1]
      have hlw : ((lives (s.E.take i)).map (·.r)).length ≤ i := by
        have := List.length_filter_le (fun e : Ent => decide (0 < e.r.len)) (s.E.take i)
        simp [lives] at this ⊢
        omega
      refine Hp_appR (x := s.E[i].r) rfl ow (by omega) fun v4 h4 o4 m4 f4 => ?_
      simp (disch := omega)
      refine hX (i + 1, v4) _ _ _ rfl (by simp) ⟨hin, m4.ext_from eg (fun b hb e => by have := fw b e; omega), ?_, fun b hb => (f4 b hb).elim (fw b) (fun e => by have := eg.size; omega)⟩ (by dsimp only; omega)
      dsimp only
      rw [htk, List.map_append]
      exact o4
    · rw [if_neg hz, List.append_nil] at htk
      simp (disch := omega) [ci, k0, k1]
      exact hX (i + 1, w) _ _ _ rfl (by simp) ⟨hin, eg, by dsimp only; rw [htk]; exact ow, fw⟩ (by dsimp only; omega)
  · obtain rfl : i = s.E.length := by omega
    rw [List.take_length] at ow
    simp (disch := omega)
    have hfL : Fit ((lives s.E).map (·.r)) := fun x hx => a.fitL x (a.live.mem_iff.1 hx)
    have hll := a.live.length_eq
    have hlen := a.len
    refine list_sort ow hfL (by omega) fun h5 L' hp hr o5 m5 => ?_
    have hLL : L' = L := rise_eq (hp.trans a.live) hr a.can
    subst hLL
    exact H w h5 (m5.ext_from eg (fun b hb e => by have := fw b e; omega)) o5 fw
end Go.Proofs.Ytgcllbelgakjgaa
set_option linter.unusedSimpArgs false
set_option linter.unusedVariables false
namespace Go.Proofs.Ytgcllbelgakjgaa
open Go.Vc Go.Sort
variable {K : Value → Heap → Prop} {h : Heap}

theorem nodup_inj {α β : Type} {f : α → β} : ∀ {l : List α}, (l.map f).Nodup → ∀ x ∈ l, ∀ y ∈ l, f x = f y → x = y
  | [], _, x, hx, _, _, _ => by cases hx
  | z :: l, hn, x, hx, y, hy, e => by
    rw [List.map_cons, List.nodup_cons] at hn
    rcases List.mem_cons.1 hx with e1 | hx' <;> rcases List.mem_cons.1 hy with e2 | hy'
    · rw [e1, e2]
    · exact absurd (List.mem_map.2 ⟨y, hy', by rw [← e, e1]⟩) hn.1
    · exact absurd (List.mem_map.2 ⟨x, hx', by rw [e, e2]⟩) hn.1
    · exact nodup_inj hn.2 x hx' y hy' e
theorem can_ats : ∀ {L : List Rn}, Vc.Can L → (L.map (·.at_)).Nodup ∧ (L.map Rn.en).Nodup
  | [], _ => ⟨by simp, by simp⟩
  | x :: L, h => by
    obtain ⟨h1, h2⟩ := can_ats h.2.2
    have hp := h.2.2.pos
    rw [List.map_cons, List.map_cons, List.nodup_cons, List.nodup_cons]
    refine ⟨⟨fun hm => ?_, h1⟩, fun hm => ?_, h2⟩
    · obtain ⟨y, hy, e⟩ := List.mem_map.1 hm
      have := h.2.1 y hy
      unfold Rn.en at this; omega
    · obtain ⟨y, hy, e⟩ := List.mem_map.1 hm
      have := h.2.1 y hy
      have := hp y hy
      unfold Rn.en at *; omega
theorem mem_lives {E : List Ent} {e : Ent} : e ∈ lives E ↔ e ∈ E ∧ 0 < e.r.len := by unfold lives; simp
theorem LqAt.injA {q : Nat} {s : Lq} {L : List Rn} (a : LqAt h q s L) : ∀ x ∈ s.E, ∀ y ∈ s.E, 0 < x.r.len → 0 < y.r.len → x.r.at_ = y.r.at_ → x = y := fun x hx y hy lx ly e => by
  have h1 := (can_ats a.can).1
  rw [← (a.live.map (·.at_)).nodup_iff, List.map_map] at h1
  exact nodup_inj (f := (fun r : Rn => r.at_) ∘ (fun e : Ent => e.r)) h1 x (mem_lives.2 ⟨hx, lx⟩) y (mem_lives.2 ⟨hy, ly⟩) e
theorem LqAt.injE {q : Nat} {s : Lq} {L : List Rn} (a : LqAt h q s L) : ∀ x ∈ s.E, ∀ y ∈ s.E, 0 < x.r.len → 0 < y.r.len → x.r.en = y.r.en → x = y := fun x hx y hy lx ly e => by
  have h1 := (can_ats a.can).2
  rw [← (a.live.map Rn.en).nodup_iff, List.map_map] at h1
  exact nodup_inj (f := Rn.en ∘ (fun e : Ent => e.r)) h1 x (mem_lives.2 ⟨hx, lx⟩) y (mem_lives.2 ⟨hy, ly⟩) e
theorem tabs_iff {f : Rn → Nat} {E E' : List Ent} {F : List (Int × Value)} (t : Tabs f E F) (h : ∀ y : Ent, 0 < y.r.len → (y ∈ E' ↔ y ∈ E)) : Tabs f E' F := fun k v => by
  rw [t k v]
  constructor
  · rintro ⟨e, he, h1, h2⟩; exact ⟨e, (h e h1).2 he, h1, h2⟩
  · rintro ⟨e, he, h1, h2⟩; exact ⟨e, (h e h1).1 he, h1, h2⟩
theorem tabs_del {f : Rn → Nat} {E E' : List Ent} {e : Ent} {F : List (Int × Value)} (t : Tabs f E F) (hF : (F.map (·.1)).Nodup) (he : e ∈ E) (hl : 0 < e.r.len) (hi : ∀ y ∈ E, 0 < y.r.len → f y.r = f e.r → y = e)
    (h : ∀ y : Ent, 0 < y.r.len → (y ∈ E' ↔ y ∈ E ∧ y ≠ e)) : Tabs f E' (del (f e.r : Int) F) := fun k v => by
  rw [look2_del hF]
  by_cases ek : k = (f e.r : Int)
  · rw [if_pos ek]
    refine ⟨(fun x => by cases x), ?_⟩
    rintro ⟨y, hy, h1, h2, h3⟩
    have := (h y h1).1 hy
    exact absurd (hi y this.1 h1 (by omega)) this.2
  · rw [if_neg ek, t k v]
    constructor
    · rintro ⟨y, hy, h1, h2, h3⟩
      refine ⟨y, (h y h1).2 ⟨hy, fun e9 => ?_⟩, h1, h2, h3⟩
      subst e9; exact ek h2.symm
    · rintro ⟨y, hy, h1, h2, h3⟩
      exact ⟨y, ((h y h1).1 hy).1, h1, h2, h3⟩
/-- A run that changes where it begins, or ends. -/
theorem tabs_set {f : Rn → Nat} {E1 E2 : List Ent} {e e' : Ent} {F : List (Int × Value)} (t : Tabs f (E1 ++ e :: E2) F) (hF : (F.map (·.1)).Nodup) (hn : ((E1 ++ e :: E2).map (·.b)).Nodup) (hl : 0 < e.r.len) (hl' : 0 < e'.r.len) (hb : e'.b = e.b)
    (hi : ∀ y ∈ E1 ++ e :: E2, 0 < y.r.len → f y.r = f e.r → y = e) (hi' : ∀ y ∈ E1 ++ E2, 0 < y.r.len → f y.r ≠ f e'.r) : Tabs f (E1 ++ e' :: E2) (upd (f e'.r : Int) (ptrV e.b) (del (f e.r : Int) F)) := by
  have hne : ∀ y, y ∈ E1 ++ E2 ↔ y ∈ E1 ++ e :: E2 ∧ y ≠ e := fun y => by
    rw [List.map_append, List.map_cons, List.nodup_append, List.nodup_cons] at hn
    constructor
    · intro hy
      rcases List.mem_append.1 hy with hy | hy
      · exact ⟨by simp [hy], fun e9 => by subst e9; exact hn.2.2 _ (List.mem_map_of_mem hy) _ (by simp) rfl⟩
      · exact ⟨by simp [hy], fun e9 => by subst e9; exact hn.2.1.1 (List.mem_map_of_mem hy)⟩
    · rintro ⟨hy, h2⟩
      rcases List.mem_append.1 hy with hy | hy
      · simp [hy]
      · rcases List.mem_cons.1 hy with hy | hy
        · exact absurd hy h2
        · simp [hy]
  have t1 := tabs_del (E' := E1 ++ E2) t hF (by simp) hl hi (fun y _ => hne y)
  have t2 := tabs_add (x := e') t1 hl' hi'
  rw [hb] at t2
  refine tabs_iff t2 fun y _ => ?_
  simp only [List.mem_append, List.mem_cons, List.not_mem_nil, or_false]
  constructor
  · rintro (h | h | h)
    · exact .inl (.inl h)
    · exact .inr h
    · exact .inl (.inr h)
  · rintro ((h | h) | h)
    · exact .inl h
    · exact .inr (.inr h)
    · exact .inr (.inl h)
/-- A run that begins, or ends, where it did. -/
theorem tabs_same {f : Rn → Nat} {E1 E2 : List Ent} {e e' : Ent} {F : List (Int × Value)} (t : Tabs f (E1 ++ e :: E2) F) (hl : 0 < e.r.len) (hl' : 0 < e'.r.len) (hb : e'.b = e.b) (hf : f e'.r = f e.r) : Tabs f (E1 ++ e' :: E2) F := fun k v => by
  rw [t k v]
  constructor
  · rintro ⟨y, hy, h1, h2, h3⟩
    rcases List.mem_append.1 hy with hy | hy
    · exact ⟨y, by simp [hy], h1, h2, h3⟩
    · rcases List.mem_cons.1 hy with rfl | hy
      · exact ⟨e', by simp, hl', by rw [hf]; exact h2, by rw [hb]; exact h3⟩
      · exact ⟨y, by simp [hy], h1, h2, h3⟩
  · rintro ⟨y, hy, h1, h2, h3⟩
    rcases List.mem_append.1 hy with hy | hy
    · exact ⟨y, by simp [hy], h1, h2, h3⟩
    · rcases List.mem_cons.1 hy with rfl | hy
      · exact ⟨e, by simp, hl, by rw [← hf]; exact h2, by rw [← hb]; exact h3⟩
      · exact ⟨y, by simp [hy], h1, h2, h3⟩
/-- A run that is gone; it may lie there still, without a byte. -/
theorem tabs_gone {f : Rn → Nat} {E1 M E2 : List Ent} {e : Ent} {F : List (Int × Value)} (t : Tabs f (E1 ++ e :: E2) F) (hF : (F.map (·.1)).Nodup) (hn : ((E1 ++ e :: E2).map (·.b)).Nodup) (hl : 0 < e.r.len) (hM : ∀ y ∈ M, y.r.len = 0)
    (hi : ∀ y ∈ E1 ++ e :: E2, 0 < y.r.len → f y.r = f e.r → y = e) : Tabs f (E1 ++ (M ++ E2)) (del (f e.r : Int) F) := by
  rw [List.map_append, List.map_cons, List.nodup_append, List.nodup_cons] at hn
  refine tabs_del t hF (by simp) hl hi fun y hy0 => ?_
  constructor
  · intro hy
    rcases List.mem_append.1 hy with hy | hy
    · exact ⟨by simp [hy], fun e9 => by subst e9; exact hn.2.2 _ (List.mem_map_of_mem hy) _ (by simp) rfl⟩
    · rcases List.mem_append.1 hy with hy | hy
      · have := hM y hy; omega
      · exact ⟨by simp [hy], fun e9 => by subst e9; exact hn.2.1.1 (List.mem_map_of_mem hy)⟩
  · rintro ⟨hy, h2⟩
    rcases List.mem_append.1 hy with hy | hy
    · simp [hy]
    · rcases List.mem_cons.1 hy with hy | hy
      · exact absurd hy h2
      · simp [hy]
theorem lives_mid {E1 E2 : List Ent} {e : Ent} : lives (E1 ++ e :: E2) = lives E1 ++ (if 0 < e.r.len then [e] else []) ++ lives E2 := by
  unfold lives
  rw [List.filter_append, List.filter_cons]
  by_cases hz : 0 < e.r.len
  · rw [if_pos (by simpa using hz), if_pos hz]; simp
  · rw [if_neg (by simpa using hz), if_neg hz]; simp
/-- The other runs, when one is told apart on both sides. -/
theorem perm_rest {E1 E2 : List Ent} {e : Ent} {A B : List Rn} (hl : 0 < e.r.len) (hp : ((lives (E1 ++ e :: E2)).map (·.r)).Perm (A ++ e.r :: B)) : ((lives E1 ++ lives E2).map (·.r)).Perm (A ++ B) := by
  rw [lives_mid, if_pos hl] at hp
  have h1 : ((lives E1 ++ [e] ++ lives E2).map (·.r)).Perm (e.r :: (lives E1 ++ lives E2).map (·.r)) := by
    simp only [List.append_assoc, List.map_append, List.map_cons, List.singleton_append]
    exact List.perm_middle
  exact ((h1.symm.trans hp).trans List.perm_middle).cons_inv
theorem perm_set {E1 E2 : List Ent} {e' : Ent} {A B : List Rn} (hl : 0 < e'.r.len) (hp : ((lives E1 ++ lives E2).map (·.r)).Perm (A ++ B)) : ((lives (E1 ++ e' :: E2)).map (·.r)).Perm (A ++ e'.r :: B) := by
  rw [lives_mid, if_pos hl]
  simp only [List.append_assoc, List.map_append, List.map_cons, List.singleton_append] at hp ⊢
  exact List.perm_middle.trans ((hp.cons e'.r).trans List.perm_middle.symm)
theorem perm_gone {E1 M E2 : List Ent} {A B : List Rn} (hM : ∀ y ∈ M, y.r.len = 0) (hp : ((lives E1 ++ lives E2).map (·.r)).Perm (A ++ B)) : ((lives (E1 ++ (M ++ E2))).map (·.r)).Perm (A ++ B) := by
  have : lives M = [] := by
    unfold lives
    rw [List.filter_eq_nil_iff]
    intro y hy
    have := hM y hy
    simp; omega
  have e : lives (E1 ++ (M ++ E2)) = lives E1 ++ lives E2 := by
    unfold lives at *
    rw [List.filter_append, List.filter_append, this, List.nil_append]
  rw [e]; exact hp
end Go.Proofs.Ytgcllbelgakjgaa
