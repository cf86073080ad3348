/- Locks: the methods of a line. -/
import Derived.Test.YtlligpgjkmfhpaaLock4
set_option linter.unusedSimpArgs false
set_option linter.unusedVariables false
namespace Go.Proofs.Ytlligpgjkmfhpaa
open Go.Vc
variable {K : Value → Heap → Prop} {h : Heap}

/-- A line in the midst of a Locks. -/
structure LnAt (h : Heap) (p : Nat) (A B v : Value) (W : List Rb) : Prop where
  cells : h[p]? = some (.cells #[A, v, B] 57)
  row : OwnT lnT 1 h v (ptrs W)
  rq : ∀ x ∈ W, RqAt h x.b x.r
  few : W.length < 100000
theorem lnT_ne : lnT ≠ 57 := by decide
theorem lnT_ne2 : lnT ≠ 63 := by decide

def lineV (p : Nat) : Value := .iface 66 (.pointer (some ⟨p, 1, none⟩))
def swapL (W : List Rb) (i j : Nat) : List Rb := match W[i]?, W[j]? with
  | some x, some y => (W.set i y).set j x
  | _, _ => W
theorem swapL_eq {W : List Rb} {i j : Nat} (hi : i < W.length) (hj : j < W.length) : swapL W i j = (W.set i W[j]).set j W[i] := by
  unfold swapL
  rw [List.getElem?_eq_getElem hi, List.getElem?_eq_getElem hj]
theorem swapL_len (W : List Rb) (i j : Nat) : (swapL W i j).length = W.length := by
  unfold swapL
  split <;> simp
theorem LnAt.form {p : Nat} {A B v : Value} {W : List Rb} (s : LnAt h p A B v W) : ∃ a c, v = .slice a W.length c ∧ W.length ≤ c ∧ (W ≠ [] → ∃ b, a = some ⟨b, 0, none⟩) := by
  obtain ⟨a, n, c, rfl, hn, hc, hne⟩ := s.row.form (by omega)
  rw [ptrs_len, Nat.mul_one] at hn
  subst hn
  exact ⟨a, c, rfl, hc, fun hW => hne (by simpa [ptrs] using hW)⟩

theorem lineLen_c {p : Nat} {A B v : Value} {W : List Rb} (s : LnAt h p A B v W) (H : K (.int .i64 W.length) h) : MethodH Try.prog (lineV p) "Len" #[] h K ⟨⟩ := by
  refine MLen (cellOf s.cells (i := 1) rfl) ?_
  obtain ⟨a, c, rfl, hc, hne⟩ := s.form
  refine n50_calls ?_
  unfold n50
  simp (disch := omega)
  exact H

theorem lineLess_c {p : Nat} {A B v : Value} {W : List Rb} {i j : Nat} (s : LnAt h p A B v W) (hi : i < W.length) (hj : j < W.length) (H : K (.bool (decide (W[i].r.tk < W[j].r.tk))) h) :
    MethodH Try.prog (lineV p) "Less" #[.int .i64 i, .int .i64 j] h K ⟨⟩ := by
  refine MLess (cellOf s.cells (i := 1) rfl) ?_
  obtain ⟨a, c, rfl, hc, hne⟩ := s.form
  obtain ⟨b, rfl⟩ := hne (fun e => by subst e; simp at hi)
  refine n105_calls ?_
  unfold n105
  have ci := (s.row.elt (i := i) (by rw [ptrs_len]; exact hi)).1
  have cj := (s.row.elt (i := j) (by rw [ptrs_len]; exact hj)).1
  have ei : (ptrs W)[i]'(by rw [ptrs_len]; exact hi) = .pointer (some ⟨W[i].b, 0, none⟩) := by simp [ptrs, ptrV]
  have ej : (ptrs W)[j]'(by rw [ptrs_len]; exact hj) = .pointer (some ⟨W[j].b, 0, none⟩) := by simp [ptrs, ptrV]
  rw [ei] at ci
  rw [ej] at cj
  have ti := (s.rq _ (List.getElem_mem hi)).c4
  have tj := (s.rq _ (List.getElem_mem hj)).c4
  simp (disch := omega) [ci, cj, ti, tj]
  refine Split.mk (fun e => ?_) (fun e => ?_)
  · rw [decide_eq_true e] at H; exact H
  · rw [decide_eq_false e] at H; exact H

theorem lineSwap_c {p : Nat} {A B v : Value} {W : List Rb} {i j : Nat} (s : LnAt h p A B v W) (hi : i < W.length) (hj : j < W.length)
    (H : ∀ h', LnAt h' p A B v (swapL W i j) → Mod (fun b => blkV v = some b) h h' → K (.tuple #[]) h') :
    MethodH Try.prog (lineV p) "Swap" #[.int .i64 i, .int .i64 j] h K ⟨⟩ := by
  refine MSwap (cellOf s.cells (i := 1) rfl) ?_
  obtain ⟨a, c, rfl, hc, hne⟩ := s.form
  obtain ⟨b, rfl⟩ := hne (fun e => by subst e; simp at hi)
  refine n106_calls ?_
  unfold n106
  have li : i < (ptrs W).length := by rw [ptrs_len]; exact hi
  have lj : j < (ptrs W).length := by rw [ptrs_len]; exact hj
  have ci := s.row.elt li
  have cj := s.row.elt lj
  have ei : (ptrs W)[i]'li = .pointer (some ⟨W[i].b, 0, none⟩) := by simp [ptrs, ptrV]
  have ej : (ptrs W)[j]'lj = .pointer (some ⟨W[j].b, 0, none⟩) := by simp [ptrs, ptrV]
  rw [ei] at ci
  rw [ej] at cj
  have r1 := s.row.setE li (u := .pointer (some ⟨W[j].b, 0, none⟩))
  have cj2 := r1.elt (i := j) (by simpa using lj)
  have r2 := r1.setE (i := j) (by simpa using lj) (u := .pointer (some ⟨W[i].b, 0, none⟩))
  simp (disch := omega) [ci.1, ci.2, cj.1, cj.2, cj2.1, cj2.2]
  have hrow : ((ptrs W).set i (.pointer (some ⟨W[j].b, 0, none⟩))).set j (.pointer (some ⟨W[i].b, 0, none⟩)) = ptrs (swapL W i j) := by
    rw [swapL_eq hi hj]; simp [ptrs, ptrV, List.map_set]
  rw [hrow] at r2
  have m : Mod (fun x => blkV (.slice (some ⟨b, 0, none⟩) W.length c) = some x) h (hset (hset h (elt ⟨b, 0, none⟩ i) (.pointer (some ⟨W[j].b, 0, none⟩))) (elt ⟨b, 0, none⟩ j) (.pointer (some ⟨W[i].b, 0, none⟩))) := by
    refine Mod.setIn (Mod.setIn (Mod.refl _ _) (.inl ?_)) (.inl ?_) <;> simp [blkV]
  refine H _ ⟨(m.block p (get_some_lt s.cells) (fun x => s.row.ne x s.cells lnT_ne rfl)).trans s.cells, ?_, fun x hx => ?_, by rw [swapL_len]; exact s.few⟩ m
  · exact r2
  · have hxW : x ∈ W := by
      rw [swapL_eq hi hj] at hx
      rcases List.mem_or_eq_of_mem_set hx with hx | hx
      · rcases List.mem_or_eq_of_mem_set hx with hx | hx
        · exact hx
        · subst hx; exact List.getElem_mem _
      · subst hx; exact List.getElem_mem _
    have := s.rq x hxW
    exact this.mod m (fun e => s.row.ne e this lnT_ne2 rfl)

theorem linePush_c {p : Nat} {A B v : Value} {W : List Rb} {x : Rb} (s : LnAt h p A B v W) (hx : RqAt h x.b x.r) (hf : W.length + 1 < 100000)
    (H : ∀ v' h', LnAt h' p A B v' (W ++ [x]) → Mod (fun b => b = p ∨ blkV v = some b) h h' → (∀ b, blkV v' = some b → blkV v = some b ∨ h.size ≤ b) → K (.tuple #[]) h') :
    MethodH Try.prog (lineV p) "Push" #[.iface lnT (ptrV x.b)] h K ⟨⟩ := by
  refine MPush ?_
  obtain ⟨a, c, rfl, hc, hne⟩ := s.form
  refine n108_calls ?_
  unfold n108 ptrV lnT
  have c1 := cellOf s.cells (i := 1) rfl
  have hpl := get_some_lt s.cells
  simp (disch := omega) [c1, Hp_assert (P := Try.prog) (t := 59) (by kernel_rfl)]
  have hbs : Ext h (h.push (.cells (List.toArray [ptrV x.b]) lnT)) := (by repeat' (first | (with_reducible exact Ext.refl _) | (with_reducible assumption) | (with_reducible refine push_ext ?_) | (with_reducible refine hset_ext ?_ ?_) | (with_reducible refine Ext.trans ?_ (by assumption)) | omega | (simp; done) | (simp; omega) | (refine Ext.size ?_) | (refine Nat.le_succ_of_le (Ext.size ?_))))
  have c2 := cellOf (i := 1) (h := h.push (.cells (List.toArray [ptrV x.b]) lnT)) ((hbs.block p hpl).trans s.cells) rfl
  refine Hp_appendT (e := lnT) (by_ := 8) (by kernel_rfl) (by kernel_rfl) (s.row.ext hbs) (by rw [ptrs_len, Nat.mul_one]) (by omega) (Src_new (vs := [ptrV x.b]) rfl) (by simp [one, ptrV]) (by omega) (by omega) fun v' h3 hO hM hF _ => ?_
  have hne : ∀ b, blkV (.slice a W.length c) = some b → b ≠ p := fun b hb => s.row.ne hb s.cells lnT_ne
  have c3 := (hM.block p (by simp; omega) (fun e => hne _ e rfl)).trans ((hbs.block p hpl).trans s.cells)
  have c4 := cellOf (i := 1) c3 rfl
  have c5 := frzOf (i := 1) c3
  obtain ⟨a', n', c', rfl, -, -, -⟩ := hO.form (by omega)
  simp (disch := omega) [c4, c5]
  have hM2 : Mod (fun b => b = p ∨ blkV (.slice a W.length c) = some b) h (hset h3 ⟨p, 1, none⟩ (.slice a' n' c')) :=
    Mod.setIn ((Mod.of_ext hbs).trans (hM.mono (fun b _ e => .inr e)) (fun _ _ e => e)) (.inl (.inl rfl))
  have hf' : ∀ b, blkV (.slice a' n' c') = some b → blkV (.slice a W.length c) = some b ∨ h.size ≤ b := fun b hb => (hF b hb).imp id (fun e => by simp at e; omega)
  have hpn : ∀ b, blkV (.slice a' n' c') = some b → b ≠ p := fun b hb => hO.ne hb c3 lnT_ne
  refine H _ _ ⟨obj_set c3, ?_, fun y hy => ?_, by simpa using hf⟩ hM2 hf'
  · have := hO.mod (Mod.set h3 ⟨p, 1, none⟩ (.slice a' n' c')) (fun b hb e => hpn b hb e)
    simpa [ptrs] using this
  · have hr : RqAt h y.b y.r := by
      rcases List.mem_append.1 hy with e | e
      · exact s.rq y e
      · simp at e; subst e; exact hx
    refine hr.mod hM2 ?_
    rintro (e | e)
    · have := hr
      unfold RqAt at this
      rw [e, s.cells] at this
      cases this
    · exact s.row.ne e hr lnT_ne2 rfl

theorem linePop_c {p : Nat} {A B v : Value} {W : List Rb} {x : Rb} (s : LnAt h p A B v (W ++ [x]))
    (H : ∀ v' h', LnAt h' p A B v' W → Mod (· = p) h h' → (∀ b, blkV v' = some b → blkV v = some b) → K (.iface lnT (ptrV x.b)) h') :
    MethodH Try.prog (lineV p) "Pop" #[] h K ⟨⟩ := by
  refine MPop ?_
  obtain ⟨a, c, rfl, hc, hne⟩ := s.form
  obtain ⟨b, rfl⟩ := hne (by simp)
  refine n107_calls ?_
  unfold n107
  have c1 := cellOf s.cells (i := 1) rfl
  have f1 := frzOf (i := 1) s.cells
  have hcl := (s.row.elt (i := W.length) (by simp [ptrs])).1
  have hpe : (ptrs (W ++ [x]))[W.length]'(by simp [ptrs]) = ptrV x.b := by simp [ptrs]
  rw [hpe] at hcl
  have hlen : (W ++ [x]).length = W.length + 1 := by simp
  have hrow := s.row
  have hfew := s.few
  rw [hlen] at c1 hc hrow hfew
  have hi1 : (((W.length + 1 : Nat) : Int) - 1) = (W.length : Int) := by omega
  simp (disch := omega) [c1, f1, hcl, ptrV, Hp_mkIface (P := Try.prog) (t := 59) (by kernel_rfl)]
  have m : Mod (· = p) h (hset h ⟨p, 1, none⟩ (.slice (some ⟨b, 0, none⟩) W.length c)) := Mod.set h ⟨p, 1, none⟩ _
  have hbp : b ≠ p := hrow.ne rfl s.cells lnT_ne
  refine H _ _ ⟨obj_set s.cells, ?_, fun y hy => ?_, by omega⟩ m (fun b' hb' => hb')
  · have := (hrow.shrink (k := W.length) (by omega)).mod m (fun b' hb' e => by cases hb'; exact hbp e)
    rw [Nat.mul_one] at this
    have e2 : (ptrs (W ++ [x])).take W.length = ptrs W := by simp [ptrs, List.map_append, List.take_append_of_le_length]
    rw [e2] at this
    exact this
  · have hr := s.rq y (List.mem_append_left _ hy)
    refine hr.mod m (fun e => ?_)
    have := hr
    unfold RqAt at this
    rw [e, s.cells] at this
    cases this
end Go.Proofs.Ytlligpgjkmfhpaa
