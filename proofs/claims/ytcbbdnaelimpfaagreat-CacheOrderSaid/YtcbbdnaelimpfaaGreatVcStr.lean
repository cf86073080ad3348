/- Rules for a range over a string of ASCII characters, and for arrays of bytes that are compared. -/
import Derived.Test.YtcbbdnaelimpfaaGreatVcTag
namespace Go.Vc
open Go
set_option linter.unusedSimpArgs false
set_option linter.unusedVariables false
set_option linter.unusedSectionVars false
section
variable {P : Program} {q : Bool} {K : Value → Heap → Prop} {h : Heap}

def StrIt (h : Heap) (it : Nat) (l : List UInt8) (i : Nat) : Prop := h[it]? = some (.stringIter ⟨⟨l⟩⟩ i)
theorem StrIt.ext {h' : Heap} {it i : Nat} {l : List UInt8} (a : StrIt h it l i) (e : Ext h h') : StrIt h' it l i := (get_ext e (get_some_lt a)).trans a
def isStrB (P : Program) (t : TypeId) : Bool := match P.underlying t with | some .string => true | _ => false
theorem hp_getStrIt {r i : Nat} {l : List UInt8} {K : Obj → Heap → Prop} (hb : StrIt h r l i) : hp P q (getObj r) K h ↔ K (.stringIter ⟨⟨l⟩⟩ i) h := by
  unfold getObj
  unfold StrIt at hb
  simp only [hp, hb]
theorem hp_setStrIt {r i : Nat} {o : Obj} {l : List UInt8} {K : Unit → Heap → Prop} (hb : StrIt h r l i) (H : K () (h.setIfInBounds r o)) : hp P false (setObj r o) K h := by
  show _ ∧ _
  refine ⟨rfl, ?_⟩
  unfold StrIt at hb
  simp only [hb]
  exact H
theorem decode_ascii {l : List UInt8} {i : Nat} {b : UInt8} (hb : l[i]? = some b) (ha : b.toNat < 128) : Utf8.decode ⟨⟨l⟩⟩ i = (b.toNat, 1) := by
  have hg : (ByteArray.get! ⟨⟨l⟩⟩ (i + 0)) = b := by
    show (Array.mk l)[i + 0]! = b
    simp [hb]
  unfold Utf8.decode
  simp only [hg]
  rw [if_pos (by omega)]
theorem Hp_nextStr {it i : Nat} {l : List UInt8} {b : UInt8} {ty : TypeId} (hs : StrIt h it l i) (hb : l[i]? = some b) (ha : b.toNat < 128)
    (H : ∀ h', Mod (· = it) h h' → StrIt h' it l (i + 1) → K (.tuple #[.bool true, .int .i64 i, .int .i32 b.toNat]) h') : Hp P false (Instr.next (.pointer (some ⟨it, 0, none⟩)) true ty) K h ⟨⟩ := by
  rw [Hp_iff]
  unfold Instr.next
  simp only
  rw [hp_bind', hp_getStrIt hs]
  simp only
  have hi : i < l.length := by
    rcases Nat.lt_or_ge i l.length with x | x
    · exact x
    · rw [List.getElem?_eq_none x] at hb; cases hb
  have hsz : (ByteArray.size ⟨⟨l⟩⟩) = l.length := rfl
  rw [hsz, if_pos hi, decode_ascii hb ha]
  simp only
  rw [hp_bind']
  refine hp_setStrIt hs ?_
  show K _ _
  exact H _ (Mod.put _ _ _) (by unfold StrIt; rw [get_put (get_some_lt hs)])
theorem Hp_nextStr0 {it i : Nat} {l : List UInt8} {ty : TypeId} (hs : StrIt h it l i) (hi : l.length ≤ i) : Hp P q (Instr.next (.pointer (some ⟨it, 0, none⟩)) true ty) K h ⟨⟩ ↔ K (.tuple #[.bool false]) h := by
  rw [Hp_iff]
  unfold Instr.next
  simp only
  rw [hp_bind', hp_getStrIt hs]
  simp only
  have hsz : (ByteArray.size ⟨⟨l⟩⟩) = l.length := rfl
  rw [hsz, if_neg (by omega)]
  exact Iff.rfl

def arrB (P : Program) (t n : Nat) : Bool := match P.underlying t with
  | some (.array m e) => (m == n) && (match P.underlying e with | some (.int .u8) => true | _ => false) && (match P.info? e with | some i => i.size == 1 | none => false) && !P.eqGuardType P.depth t
  | _ => false
end
end Go.Vc
