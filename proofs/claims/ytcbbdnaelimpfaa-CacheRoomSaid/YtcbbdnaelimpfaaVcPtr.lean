/- Pointers compared. -/
import Derived.Test.YtcbbdnaelimpfaaVcMapR
namespace Go.Vc
open Go
set_option linter.unusedSimpArgs false
set_option linter.unusedVariables false
section
variable {P : Program} {K : Value → Heap → Prop} {h : Heap}

/-- A block of cells of which none is frozen. -/
def Loose (h : Heap) (b : Nat) : Prop := ∃ arr e, h[b]? = some (.cells arr e)
theorem Loose.ext {h' : Heap} {b : Nat} (a : Loose h b) (e : Ext h h') : Loose h' b := by
  obtain ⟨arr, t, ha⟩ := a
  exact ⟨arr, t, (get_ext e (get_some_lt ha)).trans ha⟩
theorem Loose.mod {S : Nat → Prop} {h' : Heap} {b : Nat} (a : Loose h b) (e : Mod S h h') (hS : ¬ S b) : Loose h' b := by
  obtain ⟨arr, t, ha⟩ := a
  exact ⟨arr, t, (e.block b (get_some_lt ha) hS).trans ha⟩
theorem Loose.frz {b : Nat} {o : Nat} {n : Option Nat} (a : Loose h b) : hfrozen h ⟨b, o, none⟩ = false := by
  obtain ⟨arr, t, ha⟩ := a
  unfold hfrozen
  simp [ha]
theorem Loose.shape {b : Nat} (a : Loose h b) : ∃ e n, hshape h b = some (e, n) := by
  obtain ⟨arr, t, ha⟩ := a
  unfold hshape
  simp [ha]
theorem hp_sameNe {a b o p : Nat} {K : Bool → Heap → Prop} (hne : a ≠ b) (ha : Loose h a) (hb : Loose h b) (H : K false h) : hp P false (sameAddr ⟨a, o, none⟩ ⟨b, p, none⟩) K h := by
  have fa : ∀ o, hfrozen h ⟨a, o, none⟩ = false := fun o => ha.frz (n := none)
  have fb : ∀ o, hfrozen h ⟨b, o, none⟩ = false := fun o => hb.frz (n := none)
  obtain ⟨ea, na, sa⟩ := ha.shape
  obtain ⟨eb, nb, sb⟩ := hb.shape
  unfold sameAddr noView viewAt mayBeOne stringish frozen shape
  simp [hp, hp_bind', hp_pure, fa, fb, sa, sb, hne, H]
  exact ⟨rfl, H⟩
theorem hp_sameEq {q : Bool} {a o p : Nat} {K : Bool → Heap → Prop} (H : K (decide (o = p)) h) : hp P q (sameAddr ⟨a, o, none⟩ ⟨a, p, none⟩) K h := by
  unfold sameAddr
  rw [if_pos (by simp)]
  show K ((⟨a, o, none⟩ : Addr) == ⟨a, p, none⟩) h
  have : ((⟨a, o, none⟩ : Addr) == ⟨a, p, none⟩) = decide (o = p) := by
    by_cases e : o = p
    · subst e; simp
    · have : ¬ (⟨a, o, none⟩ : Addr) = ⟨a, p, none⟩ := fun x => e (by cases x; rfl)
      simp [e]
  rw [this]
  exact H
def ptrT (P : Program) (t : TypeId) : Bool := match P.underlying t with
  | some (.pointer e) => match P.info? e with
    | some i => !(Nat.beq i.size 0)
    | none => false
  | _ => false
theorem ptrT_spec {t : TypeId} (e : ptrT P t = true) : ∃ el i, P.underlying t = some (.pointer el) ∧ P.info? el = some i ∧ i.size ≠ 0 := by
  unfold ptrT at e
  split at e
  · rename_i el hu
    split at e
    · rename_i i hi
      refine ⟨el, i, hu, hi, fun h0 => ?_⟩
      rw [h0] at e; simp at e
    · cases e
  · cases e
theorem hp_equal_ptrs {q : Bool} {t : TypeId} {a b : Addr} {K : Bool → Heap → Prop} (ht : ptrT P t = true) (H : hp P q (sameAddr a b) K h) : hp P q (Op.equal t (.pointer (some a)) (.pointer (some b))) K h := by
  obtain ⟨el, i, hu, hi, h0⟩ := ptrT_spec ht
  unfold Op.equal
  rw [show Op.maxDepth = 9999 + 1 from rfl]
  unfold Op.equalIn
  rw [hp_bind', hp_underlying hu]
  simp only
  rw [hp_bind', hp_sizeOf hi, if_pos h0]
  exact H
theorem Hp_neqPtr {t : TypeId} {x y : Operand} {a b : Addr} {K : Value → Heap → Prop} (ht : ptrT P t = true) (H : hp P false (sameAddr a b) (fun v h => K (.bool !v) h) h) : Hp P false (binS .neq t x y (.pointer (some a)) (.pointer (some b))) K h ⟨⟩ := by
  rw [Hp_iff]
  show hp P false (do pure (.bool (!(← Op.equal t (.pointer (some a)) (.pointer (some b))))) : Sem Value) K h
  rw [hp_bind']
  exact hp_equal_ptrs ht H
theorem Hp_eqlPtr {t : TypeId} {x y : Operand} {a b : Addr} {K : Value → Heap → Prop} (ht : ptrT P t = true) (H : hp P false (sameAddr a b) (fun v h => K (.bool v) h) h) : Hp P false (binS .eql t x y (.pointer (some a)) (.pointer (some b))) K h ⟨⟩ := by
  rw [Hp_iff]
  show hp P false (do pure (.bool (← Op.equal t (.pointer (some a)) (.pointer (some b)))) : Sem Value) K h
  rw [hp_bind']
  exact hp_equal_ptrs ht H
theorem Hp_neqPtr_ne {t : TypeId} {x y : Operand} {a b o p : Nat} {K : Value → Heap → Prop} (ht : ptrT P t = true) (hne : a ≠ b) (ha : Loose h a) (hb : Loose h b) (H : K (.bool true) h) : Hp P false (binS .neq t x y (.pointer (some ⟨a, o, none⟩)) (.pointer (some ⟨b, p, none⟩))) K h ⟨⟩ := Hp_neqPtr ht (hp_sameNe hne ha hb H)
theorem Hp_neqPtr_eq {t : TypeId} {x y : Operand} {a o : Nat} {K : Value → Heap → Prop} (ht : ptrT P t = true) (H : K (.bool false) h) : Hp P false (binS .neq t x y (.pointer (some ⟨a, o, none⟩)) (.pointer (some ⟨a, o, none⟩))) K h ⟨⟩ := Hp_neqPtr ht (hp_sameEq (by simpa using H))
theorem Hp_eqlPtr_ne {t : TypeId} {x y : Operand} {a b o p : Nat} {K : Value → Heap → Prop} (ht : ptrT P t = true) (hne : a ≠ b) (ha : Loose h a) (hb : Loose h b) (H : K (.bool false) h) : Hp P false (binS .eql t x y (.pointer (some ⟨a, o, none⟩)) (.pointer (some ⟨b, p, none⟩))) K h ⟨⟩ := Hp_eqlPtr ht (hp_sameNe hne ha hb H)
theorem Hp_eqlPtr_eq {t : TypeId} {x y : Operand} {a o : Nat} {K : Value → Heap → Prop} (ht : ptrT P t = true) (H : K (.bool true) h) : Hp P false (binS .eql t x y (.pointer (some ⟨a, o, none⟩)) (.pointer (some ⟨a, o, none⟩))) K h ⟨⟩ := Hp_eqlPtr ht (hp_sameEq (by simpa using H))
end
end Go.Vc
