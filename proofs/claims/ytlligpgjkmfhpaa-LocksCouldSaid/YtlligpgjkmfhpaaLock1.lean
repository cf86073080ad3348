/- Locks: requests, and whether two are against each other. -/
import Derived.Test.YtlligpgjkmfhpaaLock0
set_option linter.unusedSimpArgs false
set_option linter.unusedVariables false
namespace Go.Proofs.Ytlligpgjkmfhpaa
open Go.Vc
variable {K : Value → Heap → Prop} {h : Heap}

/-- A cell of a block that is known whole. -/
theorem cellOf {b i : Nat} {arr : Array Value} {t : Go.TypeId} {v : Value} (hb : h[b]? = some (.cells arr t)) (hv : arr[i]? = some v) : hcell h ⟨b, i, none⟩ = some v := by
  unfold hcell; simp [hb, hv]
theorem frzOf {b i : Nat} {arr : Array Value} {t : Go.TypeId} (hb : h[b]? = some (.cells arr t)) : hfrozen h ⟨b, i, none⟩ = false := by
  unfold hfrozen; simp [hb]

structure Rq where
  id : Int
  at_ : Int
  len : Int
  al : Bool
  tk : Int
def Rq.cells (r : Rq) : List Value := [.int .i64 r.id, .int .i64 r.at_, .int .i64 r.len, .bool r.al, .int .i64 r.tk]
def RqAt (h : Heap) (b : Nat) (r : Rq) : Prop := h[b]? = some (.cells r.cells.toArray 63)
def Rq.ok (r : Rq) : Prop := 0 ≤ r.at_ ∧ 0 ≤ r.len ∧ r.at_ + r.len ≤ 72057594037927936
/-- Are two in each other's way? -/
def agst (x y : Rq) : Bool := (x.al || y.al) && decide ((if x.at_ < y.at_ then y.at_ else x.at_) < (if y.at_ + y.len < x.at_ + x.len then y.at_ + y.len else x.at_ + x.len))
theorem RqAt.loose {b : Nat} {r : Rq} (a : RqAt h b r) : Loose h b := ⟨_, _, a⟩
theorem RqAt.lt {b : Nat} {r : Rq} (a : RqAt h b r) : b < h.size := get_some_lt a
theorem RqAt.ext {h' : Heap} {b : Nat} {r : Rq} (a : RqAt h b r) (e : Ext h h') : RqAt h' b r := (e.block b a.lt).trans a
theorem RqAt.mod {S : Nat → Prop} {h' : Heap} {b : Nat} {r : Rq} (a : RqAt h b r) (e : Mod S h h') (hS : ¬ S b) : RqAt h' b r := (e.block b a.lt hS).trans a
theorem RqAt.c0 {b : Nat} {r : Rq} (a : RqAt h b r) : hcell h ⟨b, 0, none⟩ = some (.int .i64 r.id) := cellOf a rfl
theorem RqAt.c1 {b : Nat} {r : Rq} (a : RqAt h b r) : hcell h ⟨b, 1, none⟩ = some (.int .i64 r.at_) := cellOf a rfl
theorem RqAt.c2 {b : Nat} {r : Rq} (a : RqAt h b r) : hcell h ⟨b, 2, none⟩ = some (.int .i64 r.len) := cellOf a rfl
theorem RqAt.c3 {b : Nat} {r : Rq} (a : RqAt h b r) : hcell h ⟨b, 3, none⟩ = some (.bool r.al) := cellOf a rfl
theorem RqAt.c4 {b : Nat} {r : Rq} (a : RqAt h b r) : hcell h ⟨b, 4, none⟩ = some (.int .i64 r.tk) := cellOf a rfl

set_option maxHeartbeats 2000000 in
theorem against_c {bx by_ : Nat} {x y : Rq} (hx : RqAt h bx x) (hy : RqAt h by_ y) (ox : x.ok) (oy : y.ok) (H : K (.bool (!decide (bx = by_) && agst x y)) h) :
    CallsH Try.prog 34 #[.pointer (some ⟨bx, 0, none⟩), .pointer (some ⟨by_, 0, none⟩)] h K ⟨⟩ := by
  refine n34_calls ?_
  unfold n34
  obtain ⟨x0, x1, x2⟩ := ox
  obtain ⟨y0, y1, y2⟩ := oy
  by_cases e : bx = by_
  · subst e
    refine Hp_neqPtr_eq (by kernel_rfl) ?_
    simp only [decide_true, Bool.not_true, Bool.false_and] at H
    simp (disch := omega)
    exact H
  · refine Hp_neqPtr_ne (by kernel_rfl) e hx.loose hy.loose ?_
    unfold agst at H
    simp only [e, decide_false, Bool.not_false, Bool.true_and] at H
    have c0 := hx.c1; have c1 := hx.c2; have c2 := hx.c3
    have d0 := hy.c1; have d1 := hy.c2; have d2 := hy.c3
    generalize x.al = p at *
    generalize y.al = q at *
    have fin : ∀ (p : Prop) [Decidable p] (b : Bool), K (.bool (true && decide p)) h → (p → b = true) → (¬ p → b = false) → K (.bool b) h := fun p _ b hK h1 h2 => by
      by_cases hp : p
      · rw [h1 hp]; simpa [hp] using hK
      · rw [h2 hp]; simpa [hp] using hK
    cases p <;> cases q <;> simp (disch := omega) [c0, c1, c2, d0, d1, d2, Hp_max2, Hp_min2]
    · exact H
    all_goals
      refine Split.mk (fun hc => ?_) (fun hc => ?_)
      · simp
        rw [decide_eq_true hc] at H
        exact H
      · simp
        rw [decide_eq_false hc] at H
        exact H
end Go.Proofs.Ytlligpgjkmfhpaa
