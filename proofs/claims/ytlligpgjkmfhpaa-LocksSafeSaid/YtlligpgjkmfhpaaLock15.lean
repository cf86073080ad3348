/- Locks: who holds, who waits, told in order. -/
import Derived.Test.YtlligpgjkmfhpaaLock14
set_option linter.unusedSimpArgs false
set_option linter.unusedVariables false
namespace Go.Proofs.Ytlligpgjkmfhpaa
open Go.Vc Go.Sort
variable {K : Value → Heap → Prop} {h : Heap}

/-- Nothing to sort. -/
theorem sort0_c {v f : Value} (hv : OwnT lnT 1 h v []) (H : K (.tuple #[]) h) : CallsH Try.prog 54 #[v, f] h K ⟨⟩ := by
  refine n54_calls ?_
  unfold n54
  obtain ⟨a, n, c, rfl, hn, hc, -⟩ := hv.form (by omega)
  have hn' : n = 0 := by simpa using hn.symm
  subst hn'
  simp (disch := omega)
  refine len_c (n := 0) (by omega) ?_
  refine n68_calls ?_
  unfold n68
  refine loopX5 (fun _ : Unit => .int .i64 0) (fun _ => .int .i64 0) (fun _ => .int .i64 0) (fun _ => .bool true) (fun _ => .bool true) (fun _ g => g = h) (fun _ => 0) () ⟨rfl, rfl, by simp [bitsLen], rfl, rfl⟩ rfl ?_
  rintro _ g rfl X hX
  refine JoinN.mk ?_
  simp (disch := omega)
  refine n75_calls ?_
  unfold n75
  simp (disch := omega)
  refine loopX1 (fun _ : Unit => .int .i64 1) (fun _ g' => g' = g) (fun _ => 0) () rfl rfl ?_
  rintro _ g rfl X2 hX2
  simp (disch := omega)
  exact H

def cmpI (a b : Int) : Int := if a < b then -1 else if b < a then 1 else 0
theorem cmpI_neg {a b : Int} : cmpI a b < 0 ↔ a < b := by
  unfold cmpI
  split
  · omega
  · split <;> omega
theorem compare_c {a b : Int} (H : K (.int .i64 (cmpI a b)) h) : CallsH Try.prog 41 #[.int .i64 a, .int .i64 b] h K ⟨⟩ := by
  refine n41_calls ?_
  unfold n41
  refine isNaN_c ?_
  refine isNaN_c ?_
  unfold cmpI at H
  simp (disch := omega)
  refine Split.mk (fun e => ?_) (fun e => ?_)
  · rw [if_pos e] at H
    simp (disch := omega)
    exact H
  · rw [if_neg e] at H
    simp (disch := omega)
    refine Split.mk (fun e => ?_) (fun e => ?_)
    · rw [if_pos e] at H
      simp (disch := omega)
      exact H
    · rw [if_neg e] at H
      simp (disch := omega)
      exact H
theorem heldLess_c {x y : Rb} (hx : RbAt h x) (hy : RbAt h y) (kx : x.key = x.r.id) (ky : y.key = y.r.id) (H : K (.int .i64 (cmpI x.key y.key)) h) : InvokeH Try.prog (.func (.func 40) #[] #[]) #[ptrV x.b, ptrV y.b] h K ⟨⟩ := by
  refine InvokeH_f2 (by kernel_rfl) ?_
  refine n40_calls ?_
  unfold n40 ptrV
  have x0 := hx.1.c0
  have y0 := hy.1.c0
  rw [← kx] at x0
  rw [← ky] at y0
  simp (disch := omega) [x0, y0]
  exact compare_c H
theorem waitLess_c {x y : Rb} (hx : RbAt h x) (hy : RbAt h y) (H : K (.int .i64 (cmpI x.r.tk y.r.tk)) h) : InvokeH Try.prog (.func (.func 43) #[] #[]) #[ptrV x.b, ptrV y.b] h K ⟨⟩ := by
  refine InvokeH_f2 (by kernel_rfl) ?_
  refine n43_calls ?_
  unfold n43 ptrV
  have x0 := hx.1.c4
  have y0 := hy.1.c4
  simp (disch := omega) [x0, y0]
  exact compare_c H

def Rb.lx (x : Rb) : Lx := ⟨x.key, x.r.at_, x.r.len, x.r.al⟩
theorem swo_key {α : Type} [Inhabited α] (φ : α → Int) : SWO (ltC (fun x y : α => cmpI (φ x) (φ y))) := by
  refine ⟨fun x => ?_, fun x y z => ?_, fun x y z => ?_⟩ <;> unfold ltC
  · simp [cmpI]
  · simp only [decide_eq_true_eq, cmpI_neg]; omega
  · simp only [decide_eq_false_iff_not, cmpI_neg]; omega

/-- Sorted by a number. -/
theorem sortRb_c {L : List Rb} {v f : Value} (φ : Rb → Int) (hv : OwnT lnT 1 h v (ptrs L)) (hl : L.length < 100000) (hr : ∀ x ∈ L, RbAt h x)
    (hf : ∀ x ∈ L, ∀ y ∈ L, ∀ (g : Heap) (K : Value → Heap → Prop), RbAt g x → RbAt g y → K (.int .i64 (cmpI (φ x) (φ y))) g → InvokeH Try.prog f #[ptrV x.b, ptrV y.b] g K ⟨⟩)
    (H : ∀ h' L', L'.Perm L → L'.Pairwise (fun x y => φ x ≤ φ y) → OwnT lnT 1 h' v (ptrs L') → Mod (fun b => blkV v = some b) h h' → K (.tuple #[]) h') : CallsH Try.prog 54 #[v, f] h K ⟨⟩ := by
  rcases L with _ | ⟨x0, L0⟩
  · exact sort0_c hv (H h [] (.refl _) .nil hv (.refl _ _))
  · generalize hL : x0 :: L0 = L at *
    have hx0 : x0 ∈ L := by rw [← hL]; exact List.mem_cons_self
    letI : Inhabited {x : Rb // x ∈ L} := ⟨⟨x0, hx0⟩⟩
    have e1 : L.attach.map (fun x => ptrV x.1.b) = ptrs L := by
      unfold ptrs
      rw [List.map_attach_eq_pmap]
      simp
    refine sortC_c (α := {x : Rb // x ∈ L}) (L := L.attach) (val := fun x => ptrV x.1.b) (cm := fun x y => cmpI (φ x.1) (φ y.1)) (by rw [e1]; exact hv) (by simpa using hl) (fun b hb x y g K m hk => ?_) (fun _ => rfl) (swo_key (fun x : {x : Rb // x ∈ L} => φ x.1)) fun h' L' a1 a2 a3 a4 => ?_
    · have q : ∀ z ∈ L, RbAt g z := fun z hz => (hr z hz).mod m (fun e => hv.ne (by rw [hb, e]) (hr z hz).1 lnT_ne2 rfl)
      exact hf _ x.2 _ y.2 g K (q _ x.2) (q _ y.2) hk
    · refine H h' (L'.map (·.1)) ?_ ?_ ?_ a4
      · have := a1.map (fun x : {x : Rb // x ∈ L} => x.1)
        simpa using this
      · rw [List.pairwise_map]
        exact a2.imp fun {x y} e => by
          unfold ltC at e
          have := of_decide_eq_false e
          dsimp only at this
          rw [cmpI_neg] at this
          omega
      · have : ptrs (L'.map (·.1)) = L'.map (fun x => ptrV x.1.b) := by unfold ptrs; rw [List.map_map]; rfl
        rw [this]; exact a3
end Go.Proofs.Ytlligpgjkmfhpaa
