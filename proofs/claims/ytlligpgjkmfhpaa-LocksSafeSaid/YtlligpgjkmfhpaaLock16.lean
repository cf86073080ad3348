/- Locks: Held and Waiting. -/
import Derived.Test.YtlligpgjkmfhpaaLock15
set_option linter.unusedSimpArgs false
set_option linter.unusedVariables false
namespace Go.Proofs.Ytlligpgjkmfhpaa
open Go.Vc Go.Sort
variable {K : Value → Heap → Prop} {h : Heap}

/-- A going over these; it lies behind o. -/
def Seq (o : Nat) (h : Heap) (f : Value) (xs : List Lx) : Prop := ∃ sb v, f = .func (.func 69) #[] #[ptrV sb] ∧ h[sb]? = some (.cells #[v] 22) ∧ OwnL h v xs ∧ xs.length < 100000 ∧ o ≤ sb ∧ ∀ b, blkV v = some b → o ≤ b
theorem Seq.mod {S : Nat → Prop} {o : Nat} {h' : Heap} {f : Value} {xs : List Lx} (s : Seq o h f xs) (m : Mod S h h') (hS : ∀ b, o ≤ b → b < h.size → ¬ S b) : Seq o h' f xs := by
  obtain ⟨sb, v, h1, h2, h3, h4, h5, h6⟩ := s
  exact ⟨sb, v, h1, (m.block _ (get_some_lt h2) (hS _ h5 (get_some_lt h2))).trans h2, OwnT.mod h3 m (fun b hb => hS b (h6 b hb) (OwnT.lt h3 hb)), h4, h5, h6⟩
theorem Seq.ext {o : Nat} {h' : Heap} {f : Value} {xs : List Lx} (s : Seq o h f xs) (e : Ext h h') : Seq o h' f xs := s.mod (S := fun _ => False) (.of_ext e) (fun _ _ _ x => x)

set_option maxHeartbeats 1000000 in
theorem locks_c {L : List Rb} {v f : Value} (φ : Rb → Int) (hv : OwnT lnT 1 h v (ptrs L)) (hl : L.length < 100000) (hr : ∀ x ∈ L, RbAt h x ∧ x.key = x.r.id)
    (hf : ∀ x ∈ L, ∀ y ∈ L, ∀ (g : Heap) (K : Value → Heap → Prop), RbAt g x → RbAt g y → K (.int .i64 (cmpI (φ x) (φ y))) g → InvokeH Try.prog f #[ptrV x.b, ptrV y.b] g K ⟨⟩)
    (H : ∀ h' (L' : List Rb) w, L'.Perm L → L'.Pairwise (fun x y => φ x ≤ φ y) → Seq h.size h' w (L'.map Rb.lx) → Mod (fun b => blkV v = some b) h h' → K w h') : CallsH Try.prog 39 #[v, f] h K ⟨⟩ := by
  refine n39_calls ?_
  unfold n39
  refine sortRb_c φ hv hl (fun x hx => (hr x hx).1) hf fun h1 L' p1 s1 o1 m1 => ?_
  have hll := p1.length_eq
  obtain ⟨a, n, c, hve, hn, hc, hne⟩ := o1.form (by omega)
  rw [ptrs_len, Nat.mul_one] at hn
  rw [← hn] at hve hc
  have r1 : ∀ x ∈ L', RbAt h1 x ∧ x.key = x.r.id := fun x hx => by
    have := hr x (p1.mem_iff.1 hx)
    exact ⟨this.1.mod m1 (fun e => hv.ne e this.1.1 lnT_ne2 rfl), this.2⟩
  rw [hve]
  simp (disch := omega)
  refine loopX2 (α := Nat × Value) (fun a => a.2) (fun a => .int .i64 a.1) (fun a g => Ext h1 g ∧ a.1 ≤ L'.length ∧ OwnL g a.2 ((L'.take a.1).map Rb.lx) ∧ ∀ b, blkV a.2 = some b → h1.size ≤ b) (fun a => L'.length - a.1) (0, .slice none 0 0) ⟨rfl, rfl⟩ ⟨.refl _, by simp, .inl ⟨rfl, rfl⟩, fun b hb => by cases hb⟩ ?_
  rintro ⟨i, w⟩ g ⟨e2, hi, ow, hb⟩ X hX
  dsimp only at hi ow hb hX ⊢
  by_cases hil : i < L'.length
  · obtain ⟨b, hab⟩ := hne (by intro x; have := ptrs_len L'; rw [x] at this; simp at this; omega)
    have og := o1.ext e2
    rw [hve, hab] at og
    have hcl := (og.elt (i := i) (by rw [ptrs_len]; exact hil)).1
    have hpe : (ptrs L')[i]'(by rw [ptrs_len]; exact hil) = .pointer (some ⟨L'[i].b, 0, none⟩) := by simp [ptrs, ptrV]
    rw [hpe] at hcl
    have hx := r1 _ (List.getElem_mem hil)
    have hxg := hx.1.ext e2
    have x0 := hxg.1.c0
    have x1 := hxg.1.c1
    have x2 := hxg.1.c2
    have x3 := hxg.1.c3
    rw [← hx.2] at x0
    simp (disch := omega) [hab, hcl, x0, x1, x2, x3]
    have tk : (L'.take (i + 1)).map Rb.lx = (L'.take i).map Rb.lx ++ [L'[i].lx] := by rw [List.take_succ_eq_append_getElem hil, List.map_append]; rfl
    refine OwnL.push (x := L'[i].lx) ow (by simp; omega) (by kernel_rfl) fun w3 g3 o3 m3 f3 => ?_
    simp (disch := omega)
    refine hX (i + 1, w3) _ _ _ rfl (by simp) ⟨m3.ext_from e2 (fun b hb' e => by have := hb b e; omega), hil, by dsimp only; rw [tk]; exact o3, fun b hb' => (f3 b hb').elim (hb b) (fun e => by have := e2.size; omega)⟩ (by dsimp only; omega)
  · have : i = L'.length := by omega
    subst this
    rw [List.take_length] at ow
    obtain ⟨wa, wc, hw, hwc⟩ := ow.form
    simp (disch := omega)
    refine n55_calls ?_
    unfold n55
    rw [hw]
    simp (disch := omega)
    have e3 : Ext g (g.push (.cells #[.slice wa ((L'.map Rb.lx).length) wc] 22)) := (by repeat' (first | (with_reducible exact Ext.refl _) | (with_reducible assumption) | (with_reducible refine push_ext ?_) | (with_reducible refine hset_ext ?_ ?_) | (with_reducible refine Ext.trans ?_ (by assumption)) | omega | (simp; done) | (simp; omega) | (refine Ext.size ?_) | (refine Nat.le_succ_of_le (Ext.size ?_))))
    refine H _ L' _ p1 s1 ⟨g.size, w, rfl, ?_, ?_, by simp; omega, by have := m1.size; have := e2.size; omega, fun b hb' => by have := hb b hb'; have := m1.size; omega⟩ (m1.extIn (e2.trans (by first | exact e3 | exact (by repeat' (first | (with_reducible exact Ext.refl _) | (with_reducible assumption) | (with_reducible refine push_ext ?_) | (with_reducible refine hset_ext ?_ ?_) | (with_reducible refine Ext.trans ?_ (by assumption)) | omega | (simp; done) | (simp; omega) | (refine Ext.size ?_) | (refine Nat.le_succ_of_le (Ext.size ?_)))))))
    · rw [hw, List.length_map]; exact get_pushed rfl
    · exact OwnT.ext ow (by repeat' (first | (with_reducible exact Ext.refl _) | (with_reducible assumption) | (with_reducible refine push_ext ?_) | (with_reducible refine hset_ext ?_ ?_) | (with_reducible refine Ext.trans ?_ (by assumption)) | omega | (simp; done) | (simp; omega) | (refine Ext.size ?_) | (refine Nat.le_succ_of_le (Ext.size ?_))))

theorem fm_congr {α β : Type} {f g : α → Option β} : ∀ {l : List α}, (∀ a ∈ l, f a = g a) → l.filterMap f = l.filterMap g
  | [], _ => rfl
  | a :: l, h => by rw [List.filterMap_cons, List.filterMap_cons, h a List.mem_cons_self, fm_congr (fun b hb => h b (List.mem_cons_of_mem _ hb))]
theorem range_filter (H : List Rb) : (List.range H.length).filterMap (fun i => H[i]?) = H := by
  refine snocRec (motive := fun H => (List.range H.length).filterMap (fun i => H[i]?) = H) rfl ?_ H
  intro l x ih
  rw [List.length_append, List.length_singleton, List.range_succ, List.filterMap_append]
  congr 1
  · rw [fm_congr (g := fun i => l[i]?) (fun i hi => by rw [List.getElem?_append_left (by simpa using hi)])]
    exact ih
  · simp

set_option maxHeartbeats 2000000 in
theorem Held_c {p : Nat} {s : Lk} (hs : LkAt h p s) (H : ∀ (L' : List Rb) w h', L'.Perm s.H → Ext h h' → Seq h.size h' w (L'.map Rb.lx) → K w h') : CallsH Try.prog 23 #[ptrV p] h K ⟨⟩ := by
  refine n23_calls ?_
  unfold n23
  have hfew : s.H.length < 100000 := by have := hs.few; simp [Lk.all] at this; omega
  refine JoinN_in1 (fun w g => ∃ ks, ks.Perm s.H ∧ Ext h g ∧ OwnT lnT 1 g w (ptrs ks) ∧ ∀ b, blkV w = some b → h.size ≤ b) (fun kk hkk => ?_) (fun w g hw => ?_)
  · refine none_c (m := undef) hs.cells ?_
    have c0 := cellOf (i := 0) hs.cells rfl
    unfold ptrV
    simp (disch := omega) [c0]
    refine Hp_rangeM (by kernel_rfl) hs.map fun h1 e1 hit hs1 => ?_
    refine loopMap1 (α := Value) (fun a => a) (fun I w g => Ext h g ∧ OwnT lnT 1 g w (ptrs (I.filterMap (fun i => s.H[i]?))) ∧ ∀ b, blkV w = some b → h.size ≤ b) (.slice none 0 0) hit rfl ⟨e1, .inl ⟨rfl, rfl⟩, fun b hb => by cases hb⟩ ?_
    rintro I w g hI hn hlt ⟨e2, ow, hb⟩ X hX
    have hml : (mapL s.H).length = s.H.length := by simp [mapL]
    have hIl := nodup_len hn hlt
    refine Hp_next hI (fun i hi hiI g' m' hI' => ?_) (fun hall => ?_)
    · simp (disch := omega)
      have hiH : i < s.H.length := by omega
      have he : ((mapL s.H)[i]).2 = ptrV s.H[i].b := by simp [mapL]
      have hitn : ∀ b, blkV w = some b → b ≠ h.size := fun b hb e => by
        obtain ⟨arr, ha⟩ := ow.tag hb
        obtain ⟨es, cl, _, _, _, _, m6, _⟩ := hI
        rw [e, m6] at ha
        cases ha
      rw [Hp_entry hI' hi]
      simp (disch := omega) [he, ptrV]
      have e4 : Ext h g' := m'.ext_from e2 (fun b hb e => by have : b = h.size := e; omega)
      have ow4 : OwnT lnT 1 g' w (ptrs (I.filterMap (fun i => s.H[i]?))) := ow.mod m' (fun b hb e => hitn b hb e)
      have hkl : (I.filterMap (fun i => s.H[i]?)).length ≤ I.length := List.length_filterMap_le _ _
      have hf : (I ++ [i]).filterMap (fun i => s.H[i]?) = I.filterMap (fun i => s.H[i]?) ++ [s.H[i]] := by
        rw [List.filterMap_append]
        congr 1
        rw [List.filterMap_cons, List.getElem?_eq_getElem hiH]
        rfl
      refine Hp_appP (e := lnT) (by_ := 8) (by kernel_rfl) (by kernel_rfl) ow4 rfl (by rw [ptrs_len]; omega) (by omega) fun w6 g6 o6 m6 f6 => ?_
      refine hX i w6 g6 hiI hi (hI'.mod m6 (fun e => hitn _ e rfl) (fun e => ?_)) ⟨m6.ext_from e4 (fun b hb' e => by have := hb b e; omega), ?_, fun b hb' => (f6 b hb').elim (hb b) (fun e => by have := e4.size; omega)⟩
      · obtain ⟨es, cl, h3, _⟩ := (hs.ext e4).map
        exact ow4.neM e h3 rfl
      · rw [hf]
        simpa [ptrs, ptrV] using o6
    · simp (disch := omega)
      refine hkk _ _ ⟨_, ?_, e2, ow, hb⟩
      have hp : I.Perm (List.range s.H.length) := by
        refine (List.perm_ext_iff_of_nodup hn List.nodup_range).2 fun i => ⟨fun hi => ?_, fun hi => hall i (by simp at hi; omega)⟩
        have := hlt i hi
        simp; omega
      have := hp.filterMap (fun i => s.H[i]?)
      rw [range_filter] at this
      exact this
  · obtain ⟨ks, p1, e1, ow, hb⟩ := hw
    have hall : ∀ x ∈ ks, x ∈ s.all := fun x hx => List.mem_append_left _ (p1.mem_iff.1 hx)
    have hs1 := hs.ext e1
    refine locks_c (fun x => x.key) ow (by rw [p1.length_eq]; exact hfew) (fun x hx => hs1.rq x (hall x hx)) (fun x hx y hy g' K' rx ry hk => heldLess_c rx ry (hs1.rq x (hall x hx)).2 (hs1.rq y (hall y hy)).2 hk) fun g2 L' w2 p2 s2 q2 m2 => ?_
    obtain ⟨sb, v, q1, q2, q3, q4, q5, q6⟩ := q2
    have := e1.size
    exact H L' w2 g2 (p2.trans p1) (m2.ext_from e1 (fun b hb' e => by have := hb b e; omega)) ⟨sb, v, q1, q2, q3, q4, by omega, fun b hb => by have := q6 b hb; omega⟩

theorem clone_c {v : Value} {W : List Rb} (hv : OwnT lnT 1 h v (ptrs W)) (hl : W.length < 100000) (H : ∀ v' h', Ext h h' → OwnT lnT 1 h' v' (ptrs W) → (∀ b, blkV v' = some b → h.size ≤ b) → K v' h') : CallsH Try.prog 42 #[v] h K ⟨⟩ := by
  refine n42_calls ?_
  unfold n42
  have hv0 := hv
  rcases hv with ⟨rfl, hW⟩ | ⟨b, n, c, rest, rfl, h1, h2, h3, h4⟩
  · simp (disch := omega)
    exact H _ h (.refl _) hv0 (fun b hb => by cases hb)
  · rw [ptrs_len, Nat.mul_one] at h1
    subst h1
    simp (disch := omega)
    have e0 : Ext h (h.push (.cells #[] lnT)) := (by repeat' (first | (with_reducible exact Ext.refl _) | (with_reducible assumption) | (with_reducible refine push_ext ?_) | (with_reducible refine hset_ext ?_ ?_) | (with_reducible refine Ext.trans ?_ (by assumption)) | omega | (simp; done) | (simp; omega) | (refine Ext.size ?_) | (refine Nat.le_succ_of_le (Ext.size ?_))))
    have o0 : OwnT lnT 1 (h.push (.cells #[] lnT)) (.slice (some ⟨h.size, 0, none⟩) 0 0) [] := .inr ⟨h.size, 0, 0, [], rfl, rfl, Nat.le_refl _, get_pushed rfl, rfl⟩
    refine Hp_appendT (e := lnT) (s := 1) (by_ := 8) (n := 0) (k := W.length) (news := ptrs W) (by kernel_rfl) (by kernel_rfl) o0 rfl (by omega) (.inr (.inl ⟨_, _, rfl, by rw [ptrs_len]; omega, (OwnT.ext hv0 e0).own.seg.2.2⟩)) (fun u hu => ?_) (by omega) (by omega) fun v' h' o' m' f' _ => ?_
    · unfold ptrs at hu
      obtain ⟨x, _, rfl⟩ := List.mem_map.1 hu
      rfl
    · refine H v' h' (m'.ext_from e0 (fun b hb e => by have : h.size = b := Option.some.inj e; omega)) (by simpa using o') (fun b hb => (f' b hb).elim (fun e => by have : h.size = b := Option.some.inj e; omega) (fun e => by simp at e; omega))
theorem Waiting_c {p : Nat} {s : Lk} (hs : LkAt h p s) (H : ∀ (L' : List Rb) w h', L'.Perm s.W → L'.Pairwise (fun x y => x.r.tk ≤ y.r.tk) → Ext h h' → Seq h.size h' w (L'.map Rb.lx) → K w h') : CallsH Try.prog 24 #[ptrV p] h K ⟨⟩ := by
  refine n24_calls ?_
  unfold n24
  have hfew : s.W.length < 100000 := by have := hs.few; simp [Lk.all] at this; omega
  refine JoinN_in1 (fun w g => Ext h g ∧ OwnT lnT 1 g w (ptrs s.W) ∧ ∀ b, blkV w = some b → h.size ≤ b) (fun kk hkk => ?_) (fun w g hw => ?_)
  · refine none_c (m := undef) hs.cells ?_
    have c1 := cellOf (i := 1) hs.cells rfl
    obtain ⟨wa, wc, hwv, -, -⟩ := hs.line.form
    have hr := hs.row
    rw [hwv] at c1 hr
    unfold ptrV
    simp (disch := omega) [c1]
    refine clone_c hr hfew fun v' h' e' o' b' => ?_
    exact hkk _ _ ⟨e', o', b'⟩
  · obtain ⟨e1, ow, hb⟩ := hw
    have hs1 := hs.ext e1
    refine locks_c (fun x => x.r.tk) ow hfew (fun x hx => hs1.rq x (List.mem_append_right _ hx)) (fun x hx y hy g' K' rx ry hk => waitLess_c rx ry hk) fun g2 L' w2 p2 s2 q2 m2 => ?_
    obtain ⟨sb, v, q1, q2, q3, q4, q5, q6⟩ := q2
    have := e1.size
    exact H L' w2 g2 p2 s2 (m2.ext_from e1 (fun b hb' e => by have := hb b e; omega)) ⟨sb, v, q1, q2, q3, q4, by omega, fun b hb => by have := q6 b hb; omega⟩
end Go.Proofs.Ytlligpgjkmfhpaa
