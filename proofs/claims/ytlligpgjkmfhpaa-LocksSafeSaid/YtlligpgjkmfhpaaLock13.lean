/- Locks: could it hold; does it hold; for whom does it wait. -/
import Derived.Test.YtlligpgjkmfhpaaLock12
import Derived.Test.YtlligpgjkmfhpaaSrt11
set_option linter.unusedSimpArgs false
set_option linter.unusedVariables false
namespace Go.Proofs.Ytlligpgjkmfhpaa
open Go.Vc
variable {K : Value → Heap → Prop} {h : Heap}

theorem Could_c {p : Nat} {s : Lk} {id a l : Int} {al : Bool} (hs : LkAt h p s) (hm : MayP id a l) (H : ∀ h', Ext h h' → K (.tuple #[.bool (couldS s ⟨id, a, l, al, 0⟩), .int .i64 0]) h') :
    CallsH Try.prog 20 #[ptrV p, lockV id a l al] h K ⟨⟩ := by
  refine n20_calls ?_
  unfold n20
  have e0 : Ext h (h.push (.cells #[.int .i64 id, .int .i64 a, .int .i64 l, .bool al] 29)) := (by repeat' (first | (with_reducible exact Ext.refl _) | (with_reducible assumption) | (with_reducible refine push_ext ?_) | (with_reducible refine hset_ext ?_ ?_) | (with_reducible refine Ext.trans ?_ (by assumption)) | omega | (simp; done) | (simp; omega) | (refine Ext.size ?_) | (refine Nat.le_succ_of_le (Ext.size ?_))))
  rw [show lockV id a l al = .agg #[.int .i64 id, .int .i64 a, .int .i64 l, .bool al] from rfl]
  simp (disch := omega)
  have hs0 := hs.ext e0
  refine none_c (m := undef) hs0.cells ?_
  have c0 : hcell (h.push (.cells #[.int .i64 id, .int .i64 a, .int .i64 l, .bool al] 29)) ⟨h.size, 0, none⟩ = some (.int .i64 id) := by simp
  have c1 : hcell (h.push (.cells #[.int .i64 id, .int .i64 a, .int .i64 l, .bool al] 29)) ⟨h.size, 1, none⟩ = some (.int .i64 a) := by simp
  have c2 : hcell (h.push (.cells #[.int .i64 id, .int .i64 a, .int .i64 l, .bool al] 29)) ⟨h.size, 2, none⟩ = some (.int .i64 l) := by simp
  have c3 : hcell (h.push (.cells #[.int .i64 id, .int .i64 a, .int .i64 l, .bool al] 29)) ⟨h.size, 3, none⟩ = some (.bool al) := by simp
  generalize h.push (.cells #[.int .i64 id, .int .i64 a, .int .i64 l, .bool al] 29) = g0 at e0 hs0 c0 c1 c2 c3 ⊢
  simp (disch := omega) [c0, c1, c2, c3]
  refine may_c (id := id) (a := a) (l := l) (al := al) fun h1 e1 => ?_
  rw [decide_eq_true hm]
  simp (disch := omega) [hcell_ext e1 c0, hcell_ext e1 c1, hcell_ext e1 c2, hcell_ext e1 c3]
  have hs1 := hs0.ext e1
  have e2 : Ext h1 (h1.push (.cells #[.int .i64 id, .int .i64 a, .int .i64 l, .bool al, .int .i64 0] 63)) := (by repeat' (first | (with_reducible exact Ext.refl _) | (with_reducible assumption) | (with_reducible refine push_ext ?_) | (with_reducible refine hset_ext ?_ ?_) | (with_reducible refine Ext.trans ?_ (by assumption)) | omega | (simp; done) | (simp; omega) | (refine Ext.size ?_) | (refine Nat.le_succ_of_le (Ext.size ?_))))
  have hr : RqAt (h1.push (.cells #[.int .i64 id, .int .i64 a, .int .i64 l, .bool al, .int .i64 0] 63)) h1.size ⟨id, a, l, al, 0⟩ := get_pushed rfl
  have hok : (⟨id, a, l, al, 0⟩ : Rq).ok := ⟨hm.2.2.1, hm.2.2.2.1, by have := hm.2.2.2.2.2; show a + l ≤ _; omega⟩
  refine could_c (hs1.ext e2) hr hok (fun x hx => by have := (hs1.rq x hx).1.1.lt; omega) fun h3 e3 => ?_
  exact H _ (((e0.trans e1).trans e2).trans e3)

theorem Holds_c {p : Nat} {s : Lk} {n : Int} {x : Rb} {w : Bool} (hs : LkAt h p s) (h0 : 0 ≤ n) (h1 : n < 4096) (hf : findS s n = some (x, w)) (H : ∀ h', Ext h h' → K (.tuple #[.bool (!w), .int .i64 0]) h') :
    CallsH Try.prog 21 #[ptrV p, .int .i64 n] h K ⟨⟩ := by
  refine n21_calls ?_
  unfold n21
  refine which_c hs h0 h1 hf fun g e => ?_
  simp (disch := omega)
  exact H _ e

theorem ForH_c {p : Nat} {s : Lk} {n : Int} {x : Rb} (hs : LkAt h p s) (h0 : 0 ≤ n) (h1 : n < 4096) (hf : findS s n = some (x, false)) (H : ∀ h', Ext h h' → K (.tuple #[.slice none 0 0, .int .i64 0]) h') :
    CallsH Try.prog 22 #[ptrV p, .int .i64 n] h K ⟨⟩ := by
  refine n22_calls ?_
  unfold n22
  refine which_c hs h0 h1 hf fun g e => ?_
  simp (disch := omega)
  exact H _ e

/-- Is one in the way of x? -/
def inWay (x y : Rb) : Bool := !decide (x.b = y.b) && agst x.r y.r
theorem findS_waits {s : Lk} {n : Int} {x : Rb} (hf : findS s n = some (x, true)) : x ∈ s.W ∧ x.key = n := by
  unfold findS at hf
  split at hf
  · cases hf
  · split at hf
    · rename_i y hy
      cases hf
      exact ⟨List.mem_of_find?_eq_some hy, by simpa using List.find?_some hy⟩
    · cases hf

set_option maxHeartbeats 4000000 in
theorem ForW_c {p : Nat} {s : Lk} {n : Int} {x : Rb} (hs : LkAt h p s) (h0 : 0 ≤ n) (h1 : n < 4096) (hf : findS s n = some (x, true))
    (H : ∀ (l' : List Int) ov h', Ext h h' → OwnT 3 1 h' ov (l'.map (.int .i64)) → (∀ k, k ∈ l' ↔ (∃ y ∈ s.H, inWay x y = true ∧ y.key = k) ∨ (∃ y ∈ s.W, y.r.tk < x.r.tk ∧ inWay x y = true ∧ y.key = k)) → l'.length < 100000 → K (.tuple #[ov, .int .i64 0]) h') :
    CallsH Try.prog 22 #[ptrV p, .int .i64 n] h K ⟨⟩ := by
  obtain ⟨hxW, hxk⟩ := findS_waits hf
  have hxa : x ∈ s.all := List.mem_append_right _ hxW
  have hall : s.H.length + s.W.length < 100000 := by have := hs.few; simpa [Lk.all] using this
  refine n22_calls ?_
  unfold n22
  refine which_c hs h0 h1 hf fun g1 e1 => ?_
  have hs1 := hs.ext e1
  have c0 := cellOf (i := 0) hs1.cells rfl
  unfold ptrV
  simp (disch := omega) [c0]
  refine Hp_rangeM (by kernel_rfl) hs1.map fun g2 e2 hit hsz => ?_
  refine loopMap1 (α := Value × List Int) (fun a => a.1) (fun I a g => Ext h g ∧ OwnT 3 1 g a.1 (a.2.map (.int .i64)) ∧ (∀ b, blkV a.1 = some b → h.size ≤ b) ∧ a.2.length ≤ I.length ∧ ∀ k, k ∈ a.2 ↔ ∃ i, ∃ (hi : i < s.H.length), i ∈ I ∧ inWay x s.H[i] = true ∧ s.H[i].key = k) (.slice none 0 0, []) hit rfl ⟨e1.trans e2, .inl ⟨rfl, rfl⟩, fun b hb => (by cases hb), by simp, fun k => by simp⟩ ?_
  rintro I ⟨ov, ks⟩ g hI hn hlt ⟨e3, ho, hob, hkl, hkm⟩ X hX
  dsimp only at ho hob hkl hkm ⊢
  have hIl := nodup_len hn hlt
  have hml : (mapL s.H).length = s.H.length := by simp [mapL]
  refine Hp_next hI (fun i hi hiI g' m' hI' => ?_) (fun hallI => ?_)
  · simp (disch := omega)
    have hiH : i < s.H.length := by omega
    have he : ((mapL s.H)[i]).2 = ptrV s.H[i].b := by simp [mapL]
    have hitn : ∀ b, blkV ov = some b → b ≠ g2.size - 1 := fun b hb e => by
      obtain ⟨arr, ha⟩ := ho.tag hb
      obtain ⟨es, cl, _, _, _, _, m6, _⟩ := hI
      have : g1.size = g2.size - 1 := by omega
      rw [e, ← this, m6] at ha
      cases ha
    have e4 : Ext h g' := m'.ext_from e3 (fun b hb e => by have := e1.size; have : b = g1.size := e; omega)
    have ho4 : OwnT 3 1 g' ov (ks.map (.int .i64)) := ho.mod m' (fun b hb e => hitn b hb (by have : b = g1.size := e; omega))
    have hs4 := hs.ext e4
    have hyH : s.H[i] ∈ s.H := List.getElem_mem hiH
    have hy4 := hs4.rq _ (List.mem_append_left s.W hyH)
    have hx4 := hs4.rq x hxa
    refine JoinN_in1 (fun w g5 => ∃ ks' : List Int, MapIt (.int .i64) g5 g1.size s.m (mapL s.H) (I ++ [i]) ∧ Ext h g5 ∧ OwnT 3 1 g5 w (ks'.map (.int .i64)) ∧ (∀ b, blkV w = some b → h.size ≤ b) ∧ ks'.length ≤ ks.length + 1 ∧ ∀ k, k ∈ ks' ↔ (k ∈ ks ∨ (inWay x s.H[i] = true ∧ s.H[i].key = k))) (fun kk hkk => ?_) (fun w g5 hw => ?_)
    · rw [Hp_entry hI' hi]
      simp (disch := omega) [he]
      refine against_c hx4.1.1 hy4.1.1 hx4.1.2 hy4.1.2 ?_
      rw [show (!decide (x.b = s.H[i].b) && agst x.r s.H[i].r) = inWay x s.H[i] from rfl]
      cases hw : inWay x s.H[i] with
      | true =>
        have y0 := hy4.1.1.c0
        rw [← hy4.2] at y0
        unfold ptrV
        simp (disch := omega) [y0]
        refine Hp_appP (e := 3) (by_ := 8) (by kernel_rfl) (by kernel_rfl) ho4 rfl (by simp; omega) (by omega) fun ov6 g6 o6 m6 f6 => ?_
        have noB : ∀ b, b < h.size → ¬ blkV ov = some b := fun b hb e => by have := hob b e; omega
        refine hkk _ _ ⟨ks ++ [s.H[i].key], ?_, m6.ext_from e4 (fun b hb e => noB b hb e), by simpa using o6, fun b hb => (f6 b hb).elim (hob b) (fun e => by have := e4.size; omega), by simp, fun k => by rw [List.mem_append, List.mem_singleton]; exact ⟨fun e => e.imp id (fun e => ⟨hw, e.symm⟩), fun e => e.imp id (fun e => e.2.symm)⟩⟩
        refine hI'.mod m6 (fun e => hitn _ e (by omega)) (fun e => ?_)
        obtain ⟨es, cl, h3, _⟩ := hs4.map
        exact ho4.neM e h3 rfl
      | false =>
        simp (disch := omega)
        exact hkk _ _ ⟨ks, hI', e4, ho4, hob, by omega, fun k => by simp [hw]⟩
    · obtain ⟨ks', a1, a2, a3, a4, a5, a6⟩ := hw
      refine hX i (w, ks') g5 hiI hi a1 ⟨a2, a3, a4, by simp; omega, fun k => ?_⟩
      rw [a6, hkm]
      constructor
      · rintro (⟨j, hj, h1, h2⟩ | h2)
        · exact ⟨j, hj, List.mem_append_left _ h1, h2⟩
        · exact ⟨i, hiH, by simp, h2⟩
      · rintro ⟨j, hj, h1, h2⟩
        rcases List.mem_append.1 h1 with e | e
        · exact .inl ⟨j, hj, e, h2⟩
        · simp at e; subst e; exact .inr h2
  · have hs3 := hs.ext e3
    have c1 := cellOf (i := 1) hs3.cells rfl
    obtain ⟨wa, wc, hwv, hwc, hwne⟩ := hs3.line.form
    have hrow := hs3.row
    rw [hwv] at c1 hrow
    have hkm' : ∀ k, k ∈ ks ↔ ∃ y ∈ s.H, inWay x y = true ∧ y.key = k := fun k => by
      rw [hkm]
      constructor
      · rintro ⟨i, hi, _, h2⟩
        exact ⟨_, List.getElem_mem hi, h2⟩
      · rintro ⟨y, hy, h2⟩
        obtain ⟨i, hi, rfl⟩ := List.getElem_of_mem hy
        exact ⟨i, hi, hallI i (by omega), h2⟩
    simp (disch := omega) [c1]
    refine loopX2 (α := Nat × Value × List Int) (fun a => a.2.1) (fun a => .int .i64 a.1) (fun a g => Ext h g ∧ a.1 ≤ s.W.length ∧ OwnT 3 1 g a.2.1 (a.2.2.map (.int .i64)) ∧ (∀ b, blkV a.2.1 = some b → h.size ≤ b) ∧ a.2.2.length ≤ s.H.length + a.1 ∧ ∀ k, k ∈ a.2.2 ↔ (∃ y ∈ s.H, inWay x y = true ∧ y.key = k) ∨ (∃ y ∈ s.W.take a.1, y.r.tk < x.r.tk ∧ inWay x y = true ∧ y.key = k)) (fun a => s.W.length - a.1) (0, ov, ks) ⟨rfl, rfl⟩ ⟨e3, by simp, ho, hob, by dsimp only; omega, fun k => by simp [hkm']⟩ ?_
    clear hkm hkm' hob ho hkl
    rintro ⟨t, ov, ks⟩ g4 ⟨e4, htW, ho, hob, hkl, hkm⟩ X hX
    dsimp only at htW ho hob hkl hkm hX ⊢
    have hs4 := hs.ext e4
    have hx4 := hs4.rq x hxa
    by_cases hlt2 : t < s.W.length
    · obtain ⟨wb, hwb⟩ := hwne (fun e => by rw [e] at hlt2; simp at hlt2)
      have hro4 := hs4.row
      rw [hwv, hwb] at hro4
      have hcl := (hro4.elt (i := t) (by rw [ptrs_len]; exact hlt2)).1
      have hpe : (ptrs s.W)[t]'(by rw [ptrs_len]; exact hlt2) = .pointer (some ⟨s.W[t].b, 0, none⟩) := by simp [ptrs, ptrV]
      rw [hpe] at hcl
      have hy4 := hs4.rq _ (List.mem_append_right s.H (List.getElem_mem hlt2))
      have ty := hy4.1.1.c4
      have tx := hx4.1.1.c4
      have y0 := hy4.1.1.c0
      rw [← hy4.2] at y0
      simp (disch := omega) [hwb]
      have htk : s.W.take (t + 1) = s.W.take t ++ [s.W[t]] := List.take_succ_eq_append_getElem hlt2
      refine JoinN_in1 (fun w g5 => ∃ ks' : List Int, Ext h g5 ∧ OwnT 3 1 g5 w (ks'.map (.int .i64)) ∧ (∀ b, blkV w = some b → h.size ≤ b) ∧ ks'.length ≤ ks.length + 1 ∧ ∀ k, k ∈ ks' ↔ (k ∈ ks ∨ (s.W[t].r.tk < x.r.tk ∧ inWay x s.W[t] = true ∧ s.W[t].key = k))) (fun kk hkk => ?_) (fun w g5 hw => ?_)
      · refine JoinN.mk ?_
        simp (disch := omega) [hwb, hcl, ty, tx]
        refine Split.mk (fun hlt3 => ?_) (fun hlt3 => ?_)
        · simp (disch := omega)
          refine against_c hx4.1.1 hy4.1.1 hx4.1.2 hy4.1.2 ?_
          rw [show (!decide (x.b = s.W[t].b) && agst x.r s.W[t].r) = inWay x s.W[t] from rfl]
          cases hw : inWay x s.W[t] with
          | true =>
            simp (disch := omega) [y0]
            refine Hp_appP (e := 3) (by_ := 8) (by kernel_rfl) (by kernel_rfl) ho rfl (by simp; omega) (by omega) fun ov6 g6 o6 m6 f6 => ?_
            have noB : ∀ b, b < h.size → ¬ blkV ov = some b := fun b hb e => by have := hob b e; omega
            refine hkk _ _ ⟨ks ++ [s.W[t].key], m6.ext_from e4 (fun b hb e => noB b hb e), by simpa using o6, fun b hb => (f6 b hb).elim (hob b) (fun e => by have := e4.size; omega), by simp, fun k => by rw [List.mem_append, List.mem_singleton]; exact ⟨fun e => e.imp id (fun e => ⟨hlt3, hw, e.symm⟩), fun e => e.imp id (fun e => e.2.2.symm)⟩⟩
          | false =>
            simp (disch := omega)
            exact hkk _ _ ⟨ks, e4, ho, hob, by omega, fun k => by simp [hw]⟩
        · simp (disch := omega)
          exact hkk _ _ ⟨ks, e4, ho, hob, by omega, fun k => by simp [hlt3]⟩
      · obtain ⟨ks', a2, a3, a4, a5, a6⟩ := hw
        simp (disch := omega)
        refine hX (t + 1, w, ks') _ _ _ rfl (by simp) ⟨a2, hlt2, a3, a4, by dsimp only; omega, fun k => ?_⟩ (by dsimp only; omega)
        dsimp only
        rw [a6, hkm, htk]
        constructor
        · rintro ((h2 | ⟨y, hy, h2⟩) | h2)
          · exact .inl h2
          · exact .inr ⟨y, List.mem_append_left _ hy, h2⟩
          · exact .inr ⟨s.W[t], List.mem_append_right _ (List.mem_singleton.2 rfl), h2⟩
        · rintro (h2 | ⟨y, hy, h2⟩)
          · exact .inl (.inl h2)
          · rcases List.mem_append.1 hy with e | e
            · exact .inl (.inr ⟨y, e, h2⟩)
            · simp at e; subst e; exact .inr h2
    · have ht : t = s.W.length := by omega
      simp (disch := omega)
      refine sortInts_c ho (by omega) fun g7 l' p' _ o7 m7 => ?_
      refine H l' ov g7 (m7.ext_from e4 (fun b hb e => by have := hob b e; omega)) o7 (fun k => ?_) (by rw [p'.length_eq]; omega)
      rw [p'.mem_iff, hkm, ht, List.take_length]
end Go.Proofs.Ytlligpgjkmfhpaa
