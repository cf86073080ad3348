/- Chains of truth values without splits: a guarded value is told by `gv`. -/
import Derived.Test.YtgnmjcljljfldaaVcRow
set_option linter.unusedSimpArgs false
set_option linter.unusedVariables false
namespace Go.Vc
variable {P : Go.Program} {q : Bool} {K : Value → Heap → Prop} {h : Heap}

/-- A value that is there just if `b` is `w`. -/
def gv (b w : Bool) (v : Value) : Value := if b = w then v else undef
theorem gJ {b w : Bool} {v : Value} {J : Value → Heap → Prop} : Join1 (fun k h => guardP (.bool b) w (k v h) (k undef h) ⟨⟩ ⟨⟩) J h ⟨⟩ ⟨⟩ ↔ J (gv b w v) h := by
  cases b <;> cases w <;> simp [gv]
theorem gBin {b w : Bool} {v c : Value} {J : Value → Heap → Prop} {op : BinOp} {t : TypeId} {x y : Operand} {q : Bool} :
    Join1 (fun k h => guardP (.bool b) w (Hp P q (binS op t x y (gv b w v) c) k h ⟨⟩) (k undef h) ⟨⟩ ⟨⟩) J h ⟨⟩ ⟨⟩ ↔ Join1 (fun k h => guardP (.bool b) w (Hp P q (binS op t x y v c) k h ⟨⟩) (k undef h) ⟨⟩ ⟨⟩) J h ⟨⟩ ⟨⟩ := by
  cases b <;> cases w <;> simp [gv]
theorem gLoad {b w : Bool} {v : Value} {J : Value → Heap → Prop} {t : TypeId} {q : Bool} :
    Join1 (fun k h => guardP (.bool b) w (Hp P q (Instr.loadAt t (gv b w v)) k h ⟨⟩) (k undef h) ⟨⟩ ⟨⟩) J h ⟨⟩ ⟨⟩ ↔ Join1 (fun k h => guardP (.bool b) w (Hp P q (Instr.loadAt t v) k h ⟨⟩) (k undef h) ⟨⟩ ⟨⟩) J h ⟨⟩ ⟨⟩ := by
  cases b <;> cases w <;> simp [gv]
theorem gNot {b w : Bool} {v : Value} {J : Value → Heap → Prop} {q : Bool} :
    Join1 (fun k h => guardP (.bool b) w (Hp P q (Op.unary .not (gv b w v)) k h ⟨⟩) (k undef h) ⟨⟩ ⟨⟩) J h ⟨⟩ ⟨⟩ ↔ Join1 (fun k h => guardP (.bool b) w (Hp P q (Op.unary .not v) k h ⟨⟩) (k undef h) ⟨⟩ ⟨⟩) J h ⟨⟩ ⟨⟩ := by
  cases b <;> cases w <;> simp [gv]
theorem gAnd {b c : Bool} : Hp P q (pickS (.bool b) (gv b true (.bool c)) (.bool false)) K h ⟨⟩ ↔ K (.bool (b && c)) h := by
  cases b <;> simp [gv]
theorem gOr {b c : Bool} : Hp P q (pickS (.bool b) (.bool true) (gv b false (.bool c))) K h ⟨⟩ ↔ K (.bool (b || c)) h := by
  cases b <;> simp [gv]
theorem gAnd' {b c : Bool} : Hp P q (pickS (.bool b) (.bool c) (.bool false)) K h ⟨⟩ ↔ K (.bool (b && c)) h := by
  cases b <;> simp
theorem gBool {b w : Bool} {v v' : Value} : gv b w v = gv b w v ↔ True := by simp
theorem eql_t {t : TypeId} {x y : Operand} {k : IntKind} {a b : Int} (e : a = b) : Hp P q (binS .eql t x y (.int k a) (.int k b)) K h ⟨⟩ ↔ K (.bool true) h := by rw [Hp_eql, decide_eq_true e]
theorem eql_f {t : TypeId} {x y : Operand} {k : IntKind} {a b : Int} (e : ¬ a = b) : Hp P q (binS .eql t x y (.int k a) (.int k b)) K h ⟨⟩ ↔ K (.bool false) h := by rw [Hp_eql, decide_eq_false e]
theorem lss_t {t : TypeId} {x y : Operand} {k : IntKind} {a b : Int} (e : a < b) : Hp P q (binS .lss t x y (.int k a) (.int k b)) K h ⟨⟩ ↔ K (.bool true) h := by rw [Hp_lss, decide_eq_true e]
theorem lss_f {t : TypeId} {x y : Operand} {k : IntKind} {a b : Int} (e : ¬ a < b) : Hp P q (binS .lss t x y (.int k a) (.int k b)) K h ⟨⟩ ↔ K (.bool false) h := by rw [Hp_lss, decide_eq_false e]
theorem leq_t {t : TypeId} {x y : Operand} {k : IntKind} {a b : Int} (e : a ≤ b) : Hp P q (binS .leq t x y (.int k a) (.int k b)) K h ⟨⟩ ↔ K (.bool true) h := by rw [Hp_leq, decide_eq_true e]
theorem leq_f {t : TypeId} {x y : Operand} {k : IntKind} {a b : Int} (e : ¬ a ≤ b) : Hp P q (binS .leq t x y (.int k a) (.int k b)) K h ⟨⟩ ↔ K (.bool false) h := by rw [Hp_leq, decide_eq_false e]
theorem gtr_t {t : TypeId} {x y : Operand} {k : IntKind} {a b : Int} (e : b < a) : Hp P q (binS .gtr t x y (.int k a) (.int k b)) K h ⟨⟩ ↔ K (.bool true) h := by rw [Hp_gtr, decide_eq_true e]
theorem gtr_f {t : TypeId} {x y : Operand} {k : IntKind} {a b : Int} (e : ¬ b < a) : Hp P q (binS .gtr t x y (.int k a) (.int k b)) K h ⟨⟩ ↔ K (.bool false) h := by rw [Hp_gtr, decide_eq_false e]
theorem geq_t {t : TypeId} {x y : Operand} {k : IntKind} {a b : Int} (e : b ≤ a) : Hp P q (binS .geq t x y (.int k a) (.int k b)) K h ⟨⟩ ↔ K (.bool true) h := by rw [Hp_geq, decide_eq_true e]
theorem geq_f {t : TypeId} {x y : Operand} {k : IntKind} {a b : Int} (e : ¬ b ≤ a) : Hp P q (binS .geq t x y (.int k a) (.int k b)) K h ⟨⟩ ↔ K (.bool false) h := by rw [Hp_geq, decide_eq_false e]
theorem gLeq {b w : Bool} {J : Value → Heap → Prop} {t : TypeId} {x y : Operand} {k : IntKind} {n m : Int} {q : Bool} :
    Join1 (fun k' h => guardP (.bool b) w (Hp P q (binS .leq t x y (gv b w (.int k n)) (.int k m)) k' h ⟨⟩) (k' undef h) ⟨⟩ ⟨⟩) J h ⟨⟩ ⟨⟩ ↔ J (gv b w (.bool (decide (n ≤ m)))) h := by
  cases b <;> cases w <;> simp [gv, Hp_leq, -Hp_leq_s]
theorem gGeq {b w : Bool} {J : Value → Heap → Prop} {t : TypeId} {x y : Operand} {k : IntKind} {n m : Int} {q : Bool} :
    Join1 (fun k' h => guardP (.bool b) w (Hp P q (binS .geq t x y (gv b w (.int k n)) (.int k m)) k' h ⟨⟩) (k' undef h) ⟨⟩ ⟨⟩) J h ⟨⟩ ⟨⟩ ↔ J (gv b w (.bool (decide (m ≤ n)))) h := by
  cases b <;> cases w <;> simp [gv, Hp_geq, -Hp_geq_s]
end Go.Vc
