/- More rules: equality of truth values. -/
import Derived.Test.YtmppolccfjfoaaaVcRow
namespace Go.Vc
open Go
set_option linter.unusedSimpArgs false
set_option linter.unusedVariables false
section
variable {P : Program} {q : Bool} {K : Value → Heap → Prop} {h : Heap}

theorem Hp_eqBool_aux {t : TypeId} {a b : Bool} {K : Bool → Heap → Prop} (ht : kindFits P t (.bool a) = true) : hp P q (Op.equal t (.bool a) (.bool b)) K h ↔ K (a == b) h := by
  unfold Op.equal
  rw [show Op.maxDepth = 9999 + 1 from rfl]
  exact hp_equalIn_scal (b := (a == b)) ht (by cases a <;> cases b <;> rfl)
theorem Hp_eqlBool {t : TypeId} {x y : Operand} {a b : Bool} (ht : kindFits P t (.bool a) = true) : Hp P q (binS .eql t x y (.bool a) (.bool b)) K h ⟨⟩ ↔ Split (a = b) (K (.bool true) h) (K (.bool false) h) ⟨⟩ ⟨⟩ := by
  rw [Hp_iff]
  show hp P q (do pure (.bool (← Op.equal t (.bool a) (.bool b)))) K h ↔ _
  rw [hp_bind', Hp_eqBool_aux ht]
  show K (.bool (a == b)) h ↔ _
  cases a <;> cases b <;> simp
theorem Hp_neqBool {t : TypeId} {x y : Operand} {a b : Bool} (ht : kindFits P t (.bool a) = true) : Hp P q (binS .neq t x y (.bool a) (.bool b)) K h ⟨⟩ ↔ Split (a = b) (K (.bool false) h) (K (.bool true) h) ⟨⟩ ⟨⟩ := by
  rw [Hp_iff]
  show hp P q (do pure (.bool !(← Op.equal t (.bool a) (.bool b)))) K h ↔ _
  rw [hp_bind', Hp_eqBool_aux ht]
  show K (.bool !(a == b)) h ↔ _
  cases a <;> cases b <;> simp
end
end Go.Vc
