/- Rules for a range over a string of ASCII characters, and for arrays of bytes that are compared. -/
import Derived.Test.YtcbbdnaelimpfaaVcTag
namespace Go.Vc
open Go
set_option linter.unusedSimpArgs false
set_option linter.unusedVariables false
set_option linter.unusedSectionVars false
section
variable {P : Program} {q : Bool} {K : Value → Heap → Prop} {h : Heap}

/-- A range over a string, which stands at place i. -/
def StrIt (h : Heap) (it : Nat) (l : List UInt8) (i : Nat) : Prop := h[it]? = some (.stringIter ⟨⟨l⟩⟩ i)
theorem StrIt.ext {h' : Heap} {it i : Nat} {l : List UInt8} (a : StrIt h it l i) (e : Ext h h') : StrIt h' it l i := (get_ext e (get_some_lt a)).trans a
def isStrB (P : Program) (t : TypeId) : Bool := match P.underlying t with | some .string => true | _ => false
theorem isStrB_spec {t : TypeId} (e : isStrB P t = true) : P.underlying t = some .string := by
  unfold isStrB at e
  split at e
  · assumption
  · cases e
theorem Hp_rangeStr {t : TypeId} {l : List UInt8} (ht : isStrB P t = true)
    (H : ∀ h', Ext h h' → StrIt h' h.size l 0 → h'.size = h.size + 1 → K (.pointer (some ⟨h.size, 0, none⟩)) h') : Hp P false (Instr.range t (str l)) K h ⟨⟩ := by
  rw [Hp_iff]
  unfold Instr.range str
  rw [hp_bind', hp_underlying (isStrB_spec ht)]
  simp only
  rw [hp_bind', hp_pure, hp_bind']
  show _ ∧ _
  refine ⟨rfl, ?_⟩
  show K _ _
  exact H _ (push_ext (.refl _)) (by unfold StrIt; simp) (by simp)
theorem hp_getStrIt {r i : Nat} {l : List UInt8} {K : Obj → Heap → Prop} (hb : StrIt h r l i) : hp P q (getObj r) K h ↔ K (.stringIter ⟨⟨l⟩⟩ i) h := by
  unfold getObj
  unfold StrIt at hb
  simp only [hp, hb]
theorem hp_setStrIt {r i : Nat} {o : Obj} {l : List UInt8} {K : Unit → Heap → Prop} (hb : StrIt h r l i) (H : K () (h.setIfInBounds r o)) : hp P false (setObj r o) K h := by
  show _ ∧ _
  refine ⟨rfl, ?_⟩
  unfold StrIt at hb
  simp only [hb]
  exact H
theorem decode_ascii {l : List UInt8} {i : Nat} {b : UInt8} (hb : l[i]? = some b) (ha : b.toNat < 128) : Utf8.decode ⟨⟨l⟩⟩ i = (b.toNat, 1) := by
  have hg : (ByteArray.get! ⟨⟨l⟩⟩ (i + 0)) = b := by
    show (Array.mk l)[i + 0]! = b
    simp [hb]
  unfold Utf8.decode
  simp only [hg]
  rw [if_pos (by omega)]
theorem Hp_nextStr {it i : Nat} {l : List UInt8} {b : UInt8} {ty : TypeId} (hs : StrIt h it l i) (hb : l[i]? = some b) (ha : b.toNat < 128)
    (H : ∀ h', Mod (· = it) h h' → StrIt h' it l (i + 1) → K (.tuple #[.bool true, .int .i64 i, .int .i32 b.toNat]) h') : Hp P false (Instr.next (.pointer (some ⟨it, 0, none⟩)) true ty) K h ⟨⟩ := by
  rw [Hp_iff]
  unfold Instr.next
  simp only
  rw [hp_bind', hp_getStrIt hs]
  simp only
  have hi : i < l.length := by
    rcases Nat.lt_or_ge i l.length with x | x
    · exact x
    · rw [List.getElem?_eq_none x] at hb; cases hb
  have hsz : (ByteArray.size ⟨⟨l⟩⟩) = l.length := rfl
  rw [hsz, if_pos hi, decode_ascii hb ha]
  simp only
  rw [hp_bind']
  refine hp_setStrIt hs ?_
  show K _ _
  exact H _ (Mod.put _ _ _) (by unfold StrIt; rw [get_put (get_some_lt hs)])
theorem Hp_nextStr0 {it i : Nat} {l : List UInt8} {ty : TypeId} (hs : StrIt h it l i) (hi : l.length ≤ i) : Hp P q (Instr.next (.pointer (some ⟨it, 0, none⟩)) true ty) K h ⟨⟩ ↔ K (.tuple #[.bool false]) h := by
  rw [Hp_iff]
  unfold Instr.next
  simp only
  rw [hp_bind', hp_getStrIt hs]
  simp only
  have hsz : (ByteArray.size ⟨⟨l⟩⟩) = l.length := rfl
  rw [hsz, if_neg (by omega)]
  exact Iff.rfl

/-- An array of bytes. -/
def arrB (P : Program) (t n : Nat) : Bool := match P.underlying t with
  | some (.array m e) => (m == n) && (match P.underlying e with | some (.int .u8) => true | _ => false) && (match P.info? e with | some i => i.size == 1 | none => false) && !P.eqGuardType P.depth t
  | _ => false
theorem arrB_spec {t n : Nat} (ht : arrB P t n = true) : ∃ e i, P.underlying t = some (.array n e) ∧ P.underlying e = some (.int .u8) ∧ P.info? e = some i ∧ i.size = 1 ∧ P.eqGuardType P.depth t = false := by
  unfold arrB at ht
  split at ht
  · rename_i m e hu
    simp only [Bool.and_eq_true, beq_iff_eq, Bool.not_eq_true'] at ht
    obtain ⟨⟨⟨rfl, h1⟩, h2⟩, h3⟩ := ht
    split at h1
    · rename_i hu2
      split at h2
      · rename_i i hi
        exact ⟨e, i, hu, hu2, hi, by simpa using h2, h3⟩
      · cases h2
    · cases h1
  · cases ht
theorem hp_equalIn_u8 {d e : Nat} {a b : UInt8} {K : Bool → Heap → Prop} (he : P.underlying e = some (.int .u8)) : hp P q (Op.equalIn (d + 1) e (byteV a) (byteV b)) K h ↔ K (a == b) h := by
  unfold Op.equalIn byteV
  rw [hp_bind', hp_underlying he]
  simp only [if_true]
  rw [hp_pure]
  have : ((a.toNat : Int) == (b.toNat : Int)) = (a == b) := by
    rw [Bool.eq_iff_iff]
    simp only [beq_iff_eq, Int.natCast_inj, UInt8.toNat_inj]
  rw [this]
theorem kind_u8 {e : Nat} {a : UInt8} (he : P.underlying e = some (.int .u8)) : kindFits P e (byteV a) = true := by
  unfold kindFits byteV
  rw [he]
theorem arrLoop {d e : Nat} {xs ys : List UInt8} {fin : Option Bool × Unit → Sem Bool} (f1 : ∀ r, fin (some r, ()) = pure r) (f2 : fin (none, ()) = pure true) (he : P.underlying e = some (.int .u8)) (hl : xs.length = ys.length) :
    ∀ (m k : Nat) (K : Bool → Heap → Prop), k + m = xs.length → (hp P q ((forIn (List.range' k m 1) ((none, ()) : Option Bool × Unit) fun i _ => do
      let a ← part e (xs.map byteV).toArray (i * 1)
      let b ← part e (ys.map byteV).toArray (i * 1)
      let r ← Op.equalIn (d + 1) e a b
      if (!r) = true then pure (ForInStep.done (some false, ())) else pure (ForInStep.yield (none, ()))) >>= fin) K h ↔ K (decide (xs.drop k = ys.drop k)) h)
  | 0, k, K, hk => by
    rw [List.range'_zero, List.forIn_nil, pure_bind, f2, List.drop_eq_nil_of_le (by omega), List.drop_eq_nil_of_le (by omega)]
    simp [hp_pure]
  | m + 1, k, K, hk => by
    have ih := arrLoop (d := d) (fin := fin) f1 f2 he hl m (k + 1) K (by omega)
    have hkx : k < xs.length := by omega
    have hky : k < ys.length := by omega
    rw [List.range'_succ, hp_bind', List.forIn_cons, hp_bind', hp_bind', hp_part (v := byteV xs[k]) (kind_u8 he) (by simp [hkx]), hp_bind', hp_part (v := byteV ys[k]) (kind_u8 he) (by simp [hky]), hp_bind', hp_equalIn_u8 he, hp_ite]
    rw [List.drop_eq_getElem_cons hkx, List.drop_eq_getElem_cons hky]
    by_cases hab : xs[k] = ys[k]
    · rw [if_neg (by simp [hab]), hp_pure]
      rw [hp_bind'] at ih
      simp only [List.cons.injEq, hab, true_and]
      exact ih
    · rw [if_pos (by simp [hab]), hp_pure]
      simp only [hp_pure, f1, List.cons.injEq, hab, false_and, decide_false]
theorem hp_equalIn_arr {d t e n : Nat} {i : TypeInfo} {xs ys : List UInt8} {K : Bool → Heap → Prop} (ht : P.underlying t = some (.array n e)) (he : P.underlying e = some (.int .u8)) (hi : P.info? e = some i) (hs : i.size = 1) (hx : xs.length = n) (hy : ys.length = n) :
    hp P q (Op.equalIn (d + 2) t (.agg (xs.map byteV).toArray) (.agg (ys.map byteV).toArray)) K h ↔ K (decide (xs = ys)) h := by
  conv => lhs; unfold Op.equalIn
  rw [hp_bind', hp_underlying ht]
  simp only
  rw [hp_bind', hp_sizeOf hi, hs]
  rw [Std.Legacy.Range.forIn_eq_forIn_range']
  have hz : ([:n].size) = n := by simp [Std.Legacy.Range.size]
  rw [hz]
  exact arrLoop (P := P) (q := q) (d := d) (fun r => rfl) rfl he (hx.trans hy.symm) n 0 K (by omega)
theorem Hp_eqlArr {t n : Nat} {x y : Operand} {xs ys : List UInt8} (ht : arrB P t n = true) (hx : xs.length = n) (hy : ys.length = n) : Hp P q (binS .eql t x y (.agg (xs.map byteV).toArray) (.agg (ys.map byteV).toArray)) K h ⟨⟩ ↔ K (.bool (decide (xs = ys))) h := by
  obtain ⟨e, i, hu, he, hi, hs, hg⟩ := arrB_spec ht
  rw [Hp_iff]
  unfold binS
  rw [hp_bind', hp_eqGuard_agg hg]
  show hp P q (do pure (.bool (← Op.equal t (.agg (xs.map byteV).toArray) (.agg (ys.map byteV).toArray)))) K h ↔ _
  rw [hp_bind']
  unfold Op.equal
  rw [show Op.maxDepth = 9998 + 2 from rfl, hp_equalIn_arr hu he hi hs hx hy]
  exact Iff.rfl
theorem Hp_neqArr {t n : Nat} {x y : Operand} {xs ys : List UInt8} (ht : arrB P t n = true) (hx : xs.length = n) (hy : ys.length = n) : Hp P q (binS .neq t x y (.agg (xs.map byteV).toArray) (.agg (ys.map byteV).toArray)) K h ⟨⟩ ↔ K (.bool (!decide (xs = ys))) h := by
  obtain ⟨e, i, hu, he, hi, hs, hg⟩ := arrB_spec ht
  rw [Hp_iff]
  unfold binS
  rw [hp_bind', hp_eqGuard_agg hg]
  show hp P q (do pure (.bool (!(← Op.equal t (.agg (xs.map byteV).toArray) (.agg (ys.map byteV).toArray))))) K h ↔ _
  rw [hp_bind']
  unfold Op.equal
  rw [show Op.maxDepth = 9998 + 2 from rfl, hp_equalIn_arr hu he hi hs hx hy]
  exact Iff.rfl
end
end Go.Vc
