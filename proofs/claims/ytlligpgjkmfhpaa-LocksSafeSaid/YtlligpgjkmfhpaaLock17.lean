/- Locks: a range over a going over. -/
import Derived.Test.YtlligpgjkmfhpaaLock16
set_option linter.unusedSimpArgs false
set_option linter.unusedVariables false
namespace Go.Proofs.Ytlligpgjkmfhpaa
open Go.Vc Go.Sort
variable {K : Value → Heap → Prop} {h : Heap}

set_option maxHeartbeats 2000000 in
theorem RangeSeq {D w : Value} {B : Nat → List Value → ((Heap → Prop) → Heap → Prop) → (Heap → Prop) → (Code → Heap → Prop) → Heap → Prop} {aN aR : Value → Heap → Prop} {aE : Nat → Value → Heap → Prop} {o : Nat} {xs : List Lx} (hs : Seq o h w xs) (Φ : Nat → Heap → Prop)
    (h0 : ∀ g, Ext h g → g.size = h.size + 2 → Φ 0 g) (hst : ∀ i g g', Φ i g → Ext g g' → Φ i g')
    (hround : ∀ i (hi : i < xs.length) (g : Heap) (oR oB : Obj) (J : Code → Heap → Prop) (X : Heap → Prop), Φ i g → g[h.size + 1]? = some oR → isLoop oR = true → isLoop oB = true →
      (∀ g' (S : Nat → Prop), Φ (i + 1) g' → g'[h.size + 1]? = some oR → Mod S g g' → ¬ S h.size → (∀ b, o ≤ b → b < h.size → ¬ S b) → X g') →
      B (h.size + 1) [xs[i].val] (fun k h1 => h1[h.size + 1]? = some oR ∧ k (h1.setIfInBounds (h.size + 1) oB)) (fun h4 => h4[h.size + 1]? = some oB ∧ X (h4.setIfInBounds (h.size + 1) oR)) J g)
    (hend : ∀ g oE, Φ xs.length g → g[h.size]? = some (.deferred (some [])) → h.size + 1 < g.size → aN (consD h.size D) (g.setIfInBounds (h.size + 1) oE)) :
    RangeC Try.prog none w 1 D B aN aR aE h ⟨⟩ ⟨⟩ ⟨⟩ ⟨⟩ := by
  obtain ⟨sb, v, rfl, h2, h3, h4, h5, h6⟩ := hs
  refine RangeC_none rfl fun oR oB oE oX oF Kp hoR hoB hrd hN hR hX => ?_
  refine InvokeH_k1 (by kernel_rfl) ?_
  refine (⟨_, rfl⟩ : ∃ g, g = (h.push (.deferred (some []))).push oR).elim fun g eg => ?_
  have zg : g.size = h.size + 2 := by simp [eg]
  have eg' : Ext h g := by rw [eg]; exact (by repeat' (first | (with_reducible exact Ext.refl _) | (with_reducible assumption) | (with_reducible refine push_ext ?_) | (with_reducible refine hset_ext ?_ ?_) | (with_reducible refine Ext.trans ?_ (by assumption)) | omega | (simp; done) | (simp; omega) | (refine Ext.size ?_) | (refine Nat.le_succ_of_le (Ext.size ?_))))
  have rD : g[h.size]? = some (.deferred (some [])) := by rw [eg, get_push (by simp), get_pushed rfl]
  have rL : g[h.size + 1]? = some oR := by rw [eg, get_pushed (by simp)]
  rw [← eg]
  have p0 := h0 g eg' zg
  have hsb := get_some_lt h2
  have b1 := (eg'.block _ hsb).trans h2
  have o1 : OwnL g v xs := OwnT.ext h3 eg'
  clear eg
  obtain ⟨va, vc, hv, hvc⟩ := o1.form
  have c1 := cellOf (i := 0) b1 rfl
  rw [hv] at c1
  refine n69_calls ?_
  unfold n69 ptrV
  simp (disch := omega) [c1]
  refine loopX1 (α := Nat) (fun a => .int .i64 a) (fun i g' => i ≤ xs.length ∧ Φ i g' ∧ g'[h.size]? = some (.deferred (some [])) ∧ g'[h.size + 1]? = some oR ∧ OwnL g' v xs) (fun i => xs.length - i) 0 rfl ⟨by omega, p0, rD, rL, o1⟩ ?_
  rintro i g' ⟨hi, hp, hd, hl, ho⟩ X hX
  have hlt := get_some_lt hl
  by_cases hil : i < xs.length
  · have inv : ∀ (g2 : Heap) (K0 : Value → Heap → Prop), Ext g' g2 → (∀ g3 (S : Nat → Prop), Φ (i + 1) g3 → g3[h.size + 1]? = some oR → Mod S g2 g3 → ¬ S h.size → (∀ b, o ≤ b → b < h.size → ¬ S b) → K0 (.bool true) g3) → InvokeH Try.prog (.func (.yield (h.size + 1)) #[] #[]) #[xs[i].val] g2 K0 ⟨⟩ := fun g2 K0 e2 hk =>
      hrd [xs[i].val] g2 K0 rfl ((e2.block _ hlt).trans hl) (hround i hil g2 oR oB _ (fun g3 => K0 (.bool true) g3) (hst _ _ _ hp e2) ((e2.block _ hlt).trans hl) hoR hoB hk)
    have hlx := ho.lxs
    rw [hv] at hlx
    obtain ⟨sa', hsa, -, -⟩ := hlx.some (by omega)
    rw [hsa] at hlx
    obtain ⟨q0, q1, q2, q3⟩ := hlx.cell i hil
    simp (disch := omega) [hsa, q0, q1, q2, q3]
    refine (fun key => key _ ?_ : (∀ g2, Ext g' g2 → InvokeH Try.prog (.func (.yield (h.size + 1)) #[] #[]) #[xs[i].val] g2 _ ⟨⟩) → _) (fun g2 e2 => ?_)
    · exact (by repeat' (first | (with_reducible exact Ext.refl _) | (with_reducible assumption) | (with_reducible refine push_ext ?_) | (with_reducible refine hset_ext ?_ ?_) | (with_reducible refine Ext.trans ?_ (by assumption)) | omega | (simp; done) | (simp; omega) | (refine Ext.size ?_) | (refine Nat.le_succ_of_le (Ext.size ?_))))
    · refine inv g2 _ e2 fun g3 S p3 l3 m3 s1 s2 => ?_
      simp (disch := omega)
      refine hX (i + 1) _ _ (by simp) ⟨by omega, p3, ?_, l3, ?_⟩ (by omega)
      · exact (m3.block _ (by have := e2.size; omega) s1).trans ((e2.block _ (by omega)).trans hd)
      · refine OwnT.mod (OwnT.ext ho e2) m3 (fun b hb => s2 b (h6 b hb) (OwnT.lt h3 hb))
  · have : i = xs.length := by omega
    subst this
    simp (disch := omega)
    refine hN _ _ hl ?_
    exact hend g' oE hp hd hlt
end Go.Proofs.Ytlligpgjkmfhpaa
