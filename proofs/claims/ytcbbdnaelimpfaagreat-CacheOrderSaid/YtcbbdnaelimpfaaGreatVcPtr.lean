/- Pointers compared. -/
import Derived.Test.YtcbbdnaelimpfaaGreatVcMapR
namespace Go.Vc
open Go
set_option linter.unusedSimpArgs false
set_option linter.unusedVariables false
section
variable {P : Program} {K : Value → Heap → Prop} {h : Heap}

def Loose (h : Heap) (b : Nat) : Prop := ∃ arr e, h[b]? = some (.cells arr e)
theorem Loose.ext {h' : Heap} {b : Nat} (a : Loose h b) (e : Ext h h') : Loose h' b := by
  obtain ⟨arr, t, ha⟩ := a
  exact ⟨arr, t, (get_ext e (get_some_lt ha)).trans ha⟩
theorem Loose.mod {S : Nat → Prop} {h' : Heap} {b : Nat} (a : Loose h b) (e : Mod S h h') (hS : ¬ S b) : Loose h' b := by
  obtain ⟨arr, t, ha⟩ := a
  exact ⟨arr, t, (e.block b (get_some_lt ha) hS).trans ha⟩
theorem Loose.shape {b : Nat} (a : Loose h b) : ∃ e n, hshape h b = some (e, n) := by
  obtain ⟨arr, t, ha⟩ := a
  unfold hshape
  simp [ha]
def ptrT (P : Program) (t : TypeId) : Bool := match P.underlying t with
  | some (.pointer e) => match P.info? e with
    | some i => !(Nat.beq i.size 0)
    | none => false
  | _ => false
end
end Go.Vc
