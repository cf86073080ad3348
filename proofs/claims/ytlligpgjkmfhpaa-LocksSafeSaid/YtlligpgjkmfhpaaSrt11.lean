/- Sorting: slices.Sort, slices.SortFunc. -/
import Derived.Test.YtlligpgjkmfhpaaSrt10
set_option linter.unusedSimpArgs false
set_option linter.unusedVariables false
namespace Go.Proofs.Ytlligpgjkmfhpaa
open Go.Vc Go.Sort

section
variable {α : Type} [Inhabited α] {K : Value → Heap → Prop} {h0 h : Heap} {b n c : Nat} {val : α → Value} {d : Array α} {f : Value} {cm : α → α → Int}

set_option linter.unusedSectionVars false
theorem SA.init {e : Nat} {L : List α} (o : OwnT e 1 h (.slice (some ⟨b, 0, none⟩) n c) (L.map val)) : SA e b n c val h h L.toArray := ⟨by simpa using o, .refl _ _⟩
/-- No later one is less than an earlier one. -/
def Ascend (lt : α → α → Bool) (L : List α) : Prop := L.Pairwise (fun x y => lt y x = false)
theorem sorts {lt : α → α → Bool} (hw : SWO lt) (d : Array α) (lim : Nat) : (pdq lt d 0 d.size lim true true).toList.Perm d.toList ∧ Ascend lt (pdq lt d 0 d.size lim true true).toList := by
  obtain ⟨⟨h1, h2, h3⟩, h4⟩ := pdq_sorts lt hw d 0 d.size lim true true (Nat.zero_le _) (Nat.le_refl _) (.inl rfl)
  generalize pdq lt d 0 d.size lim true true = R at *
  constructor
  · have e1 : R.extract 0 d.size = R := by rw [← h1]; simp
    have e2 : d.extract 0 d.size = d := by simp
    rw [e1, e2] at h3
    exact h3
  · unfold Ascend
    rw [List.pairwise_iff_getElem]
    intro i j hi hj hij
    have := h4 i j (Nat.zero_le _) hij (by simp at hj; omega)
    simp at hi hj
    rw [getB (d := R) hi, getB (d := R) hj] at this
    simpa using this

theorem sortC_c {L : List α} {v : Value} (hv : OwnT 59 1 h v (L.map val)) (hl : L.length < 100000) (hf : ∀ b, blkV v = some b → CmpOk Try.prog f b h val cm) (hone : ∀ x, one (val x) = true) (hw : SWO (ltC cm))
    (H : ∀ h' L', L'.Perm L → Ascend (ltC cm) L' → OwnT 59 1 h' v (L'.map val) → Mod (fun b => blkV v = some b) h h' → K (.tuple #[]) h') :
    CallsH Try.prog 54 #[v, f] h K ⟨⟩ := by
  refine n54_calls ?_
  unfold n54
  have hv0 := hv
  rcases hv with ⟨rfl, hL⟩ | ⟨b, n, c, rest, rfl, h1, h2, h3, h4⟩
  · have hL' : L = [] := by simpa using hL
    have hk := H h [] (by rw [hL']) .nil (.inl ⟨rfl, rfl⟩) (.refl _ _)
    simp (disch := omega)
    refine len_c (n := 0) (by omega) ?_
    refine n68_calls ?_
    unfold n68
    refine loopX5 (fun _ : Unit => .int .i64 0) (fun _ => .int .i64 0) (fun _ => .int .i64 0) (fun _ => .bool true) (fun _ => .bool true) (fun _ g => g = h) (fun _ => 0) () ⟨rfl, rfl, rfl, rfl, rfl⟩ rfl ?_
    rintro _ g rfl X hX
    refine JoinN.mk ?_
    simp (disch := omega)
    refine n75_calls ?_
    unfold n75
    simp (disch := omega)
    refine loopX1 (fun _ : Unit => .int .i64 1) (fun _ g' => g' = g) (fun _ => 0) () rfl rfl ?_
    rintro _ g rfl X2 hX2
    simp (disch := omega)
    exact hk
  · have hn : L.length = n := by simpa using h1
    subst hn
    have s := SA.init (val := val) (L := L) hv0
    have hbl := bitsLen_le (show L.length < 16777216 by omega)
    simp (disch := omega)
    refine len_c (n := L.length) (by omega) ?_
    refine pdqC_c (hf b rfl) hone hl L.length (x := 0) (y := L.length) (lim := bitsLen L.length) (by omega) s (by omega) (by omega) (by omega) fun h' s' => ?_
    have hs := sorts hw L.toArray (bitsLen L.length)
    rw [show L.toArray.size = L.length by simp] at hs
    exact H h' _ hs.1 hs.2 s'.own (s'.mod.mono (fun b' _ e => by rw [e]; rfl))

theorem sortO_c {L : List α} {v : Value} (hv : OwnT 3 1 h v (L.map val)) (hl : L.length < 100000) (hf : LessOk Try.prog 63 val cm) (hone : ∀ x, one (val x) = true) (hw : SWO (ltC cm))
    (H : ∀ h' L', L'.Perm L → Ascend (ltC cm) L' → OwnT 3 1 h' v (L'.map val) → Mod (fun b => blkV v = some b) h h' → K (.tuple #[]) h') :
    CallsH Try.prog 38 #[v] h K ⟨⟩ := by
  refine n38_calls ?_
  unfold n38
  have hv0 := hv
  rcases hv with ⟨rfl, hL⟩ | ⟨b, n, c, rest, rfl, h1, h2, h3, h4⟩
  · have hL' : L = [] := by simpa using hL
    have hk := H h [] (by rw [hL']) .nil (.inl ⟨rfl, rfl⟩) (.refl _ _)
    simp (disch := omega)
    refine len_c (n := 0) (by omega) ?_
    refine n52_calls ?_
    unfold n52
    refine loopX5 (fun _ : Unit => .int .i64 0) (fun _ => .int .i64 0) (fun _ => .int .i64 0) (fun _ => .bool true) (fun _ => .bool true) (fun _ g => g = h) (fun _ => 0) () ⟨rfl, rfl, rfl, rfl, rfl⟩ rfl ?_
    rintro _ g rfl X hX
    refine JoinN.mk ?_
    simp (disch := omega)
    refine n57_calls ?_
    unfold n57
    simp (disch := omega)
    refine loopX1 (fun _ : Unit => .int .i64 1) (fun _ g' => g' = g) (fun _ => 0) () rfl rfl ?_
    rintro _ g rfl X2 hX2
    simp (disch := omega)
    exact hk
  · have hn : L.length = n := by simpa using h1
    subst hn
    have s := SA.init (val := val) (L := L) hv0
    have hbl := bitsLen_le (show L.length < 16777216 by omega)
    simp (disch := omega)
    refine len_c (n := L.length) (by omega) ?_
    refine pdqO_c hf hone hl L.length (x := 0) (y := L.length) (lim := bitsLen L.length) (by omega) s (by omega) (by omega) (by omega) fun h' s' => ?_
    have hs := sorts hw L.toArray (bitsLen L.length)
    rw [show L.toArray.size = L.length by simp] at hs
    exact H h' _ hs.1 hs.2 s'.own (s'.mod.mono (fun b' _ e => by rw [e]; rfl))
theorem isNaN_c {n : Int} (H : K (.bool false) h) : CallsH Try.prog 56 #[.int .i64 n] h K ⟨⟩ := by
  refine n56_calls ?_
  unfold n56
  simp (disch := omega)
  exact H
theorem less_ok : LessOk (α := Int) Try.prog 63 (.int .i64) (fun x y => x - y) := by
  intro x y g K H
  dsimp only at H
  refine n63_calls ?_
  unfold n63
  refine isNaN_c ?_
  simp (disch := omega)
  by_cases e : x < y
  · rw [decide_eq_true (by omega)] at H
    simp (disch := omega) [e]
    exact H
  · rw [decide_eq_false (by omega)] at H
    simp (disch := omega) [e]
    exact H
theorem swo_sub : SWO (ltC (fun x y : Int => x - y)) := by
  refine ⟨fun x => ?_, fun x y z => ?_, fun x y z => ?_⟩ <;> unfold ltC
  · simp
  · simp; omega
  · simp; omega
/-- Numbers sorted: the sorted list. -/
theorem sortInts_c {l : List Int} {v : Value} (hv : OwnT 3 1 h v (l.map (.int .i64))) (hl : l.length < 100000)
    (H : ∀ h' (l' : List Int), l'.Perm l → l'.Pairwise (· ≤ ·) → OwnT 3 1 h' v (l'.map (.int .i64)) → Mod (fun b => blkV v = some b) h h' → K (.tuple #[]) h') : CallsH Try.prog 38 #[v] h K ⟨⟩ := by
  refine sortO_c (α := Int) (val := .int .i64) (cm := fun x y => x - y) hv hl less_ok (fun _ => rfl) swo_sub fun h' l' a1 a2 a3 a4 => H h' l' a1 (a2.imp fun e => ?_) a3 a4
  unfold ltC at e
  have := of_decide_eq_false e
  dsimp only at this
  omega
end
end Go.Proofs.Ytlligpgjkmfhpaa
