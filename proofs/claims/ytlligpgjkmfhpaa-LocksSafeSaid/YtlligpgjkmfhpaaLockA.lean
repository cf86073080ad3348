/- Locks: the methods of a line, called through container/heap's interface. Locks: requests, and whether two are against each other. Locks: who holds, who waits; what is asked of them. -/
import Derived.Test.YtlligpgjkmfhpaaNice
import Derived.Test.YtlligpgjkmfhpaaFacts
import Derived.Test.YtlligpgjkmfhpaaVcPtr
import Derived.Test.YtlligpgjkmfhpaaVcMapL
set_option linter.unusedVariables false
namespace Go.Proofs.Ytlligpgjkmfhpaa
open Go.Vc
variable {K : Value → Heap → Prop} {h : Heap}

theorem MPush {a : Addr} {x : Value} (H : CallsH Try.prog 108 #[.pointer (some a), x] h K ⟨⟩) : MethodH Try.prog (.iface 66 (.pointer (some a))) "Push" #[x] h K ⟨⟩ := by
  refine ⟨?_⟩
  have e : methodP Try.prog (.iface 66 (.pointer (some a))) "Push" #[x] h K = CallsH Try.prog 108 #[.pointer (some a), x] h K ⟨⟩ := by kernel_rfl
  rw [e]
  exact H
theorem MPop {a : Addr} (H : CallsH Try.prog 107 #[.pointer (some a)] h K ⟨⟩) : MethodH Try.prog (.iface 66 (.pointer (some a))) "Pop" #[] h K ⟨⟩ := by
  refine ⟨?_⟩
  have e : methodP Try.prog (.iface 66 (.pointer (some a))) "Pop" #[] h K = CallsH Try.prog 107 #[.pointer (some a)] h K ⟨⟩ := by kernel_rfl
  rw [e]
  exact H
theorem MLen {a : Addr} {v : Value} (hv : hcell h a = some v) (H : CallsH Try.prog 50 #[v] h K ⟨⟩) : MethodH Try.prog (.iface 66 (.pointer (some a))) "Len" #[] h K ⟨⟩ := by
  refine ⟨?_⟩
  have e : methodP Try.prog (.iface 66 (.pointer (some a))) "Len" #[] h K = (match hcell h a with | some v => CallsH Try.prog 50 #[v] h K ⟨⟩ | none => False) := by kernel_rfl
  rw [e, hv]
  exact H
theorem MLess {a : Addr} {v : Value} {x : Value} {y : Value} (hv : hcell h a = some v) (H : CallsH Try.prog 105 #[v, x, y] h K ⟨⟩) : MethodH Try.prog (.iface 66 (.pointer (some a))) "Less" #[x, y] h K ⟨⟩ := by
  refine ⟨?_⟩
  have e : methodP Try.prog (.iface 66 (.pointer (some a))) "Less" #[x, y] h K = (match hcell h a with | some v => CallsH Try.prog 105 #[v, x, y] h K ⟨⟩ | none => False) := by kernel_rfl
  rw [e, hv]
  exact H
theorem MSwap {a : Addr} {v : Value} {x : Value} {y : Value} (hv : hcell h a = some v) (H : CallsH Try.prog 106 #[v, x, y] h K ⟨⟩) : MethodH Try.prog (.iface 66 (.pointer (some a))) "Swap" #[x, y] h K ⟨⟩ := by
  refine ⟨?_⟩
  have e : methodP Try.prog (.iface 66 (.pointer (some a))) "Swap" #[x, y] h K = (match hcell h a with | some v => CallsH Try.prog 106 #[v, x, y] h K ⟨⟩ | none => False) := by kernel_rfl
  rw [e, hv]
  exact H
end Go.Proofs.Ytlligpgjkmfhpaa
set_option linter.unusedSimpArgs false
set_option linter.unusedVariables false
namespace Go.Proofs.Ytlligpgjkmfhpaa
open Go.Vc
variable {K : Value → Heap → Prop} {h : Heap}

/-- A cell of a block that is known whole. -/
theorem cellOf {b i : Nat} {arr : Array Value} {t : Go.TypeId} {v : Value} (hb : h[b]? = some (.cells arr t)) (hv : arr[i]? = some v) : hcell h ⟨b, i, none⟩ = some v := by
  unfold hcell; simp [hb, hv]
theorem frzOf {b i : Nat} {arr : Array Value} {t : Go.TypeId} (hb : h[b]? = some (.cells arr t)) : hfrozen h ⟨b, i, none⟩ = false := by
  unfold hfrozen; simp [hb]

structure Rq where
  id : Int
  at_ : Int
  len : Int
  al : Bool
  tk : Int
def Rq.cells (r : Rq) : List Value := [.int .i64 r.id, .int .i64 r.at_, .int .i64 r.len, .bool r.al, .int .i64 r.tk]
def RqAt (h : Heap) (b : Nat) (r : Rq) : Prop := h[b]? = some (.cells r.cells.toArray 63)
def Rq.ok (r : Rq) : Prop := 0 ≤ r.at_ ∧ 0 ≤ r.len ∧ r.at_ + r.len ≤ 72057594037927936
/-- Are two in each other's way? -/
def agst (x y : Rq) : Bool := (x.al || y.al) && decide ((if x.at_ < y.at_ then y.at_ else x.at_) < (if y.at_ + y.len < x.at_ + x.len then y.at_ + y.len else x.at_ + x.len))
theorem RqAt.loose {b : Nat} {r : Rq} (a : RqAt h b r) : Loose h b := ⟨_, _, a⟩
theorem RqAt.lt {b : Nat} {r : Rq} (a : RqAt h b r) : b < h.size := get_some_lt a
theorem RqAt.ext {h' : Heap} {b : Nat} {r : Rq} (a : RqAt h b r) (e : Ext h h') : RqAt h' b r := (e.block b a.lt).trans a
theorem RqAt.mod {S : Nat → Prop} {h' : Heap} {b : Nat} {r : Rq} (a : RqAt h b r) (e : Mod S h h') (hS : ¬ S b) : RqAt h' b r := (e.block b a.lt hS).trans a
theorem RqAt.c0 {b : Nat} {r : Rq} (a : RqAt h b r) : hcell h ⟨b, 0, none⟩ = some (.int .i64 r.id) := cellOf a rfl
theorem RqAt.c1 {b : Nat} {r : Rq} (a : RqAt h b r) : hcell h ⟨b, 1, none⟩ = some (.int .i64 r.at_) := cellOf a rfl
theorem RqAt.c2 {b : Nat} {r : Rq} (a : RqAt h b r) : hcell h ⟨b, 2, none⟩ = some (.int .i64 r.len) := cellOf a rfl
theorem RqAt.c3 {b : Nat} {r : Rq} (a : RqAt h b r) : hcell h ⟨b, 3, none⟩ = some (.bool r.al) := cellOf a rfl
theorem RqAt.c4 {b : Nat} {r : Rq} (a : RqAt h b r) : hcell h ⟨b, 4, none⟩ = some (.int .i64 r.tk) := cellOf a rfl

set_option maxHeartbeats 2000000 in
theorem against_c {bx by_ : Nat} {x y : Rq} (hx : RqAt h bx x) (hy : RqAt h by_ y) (ox : x.ok) (oy : y.ok) (H : K (.bool (!decide (bx = by_) && agst x y)) h) :
    CallsH Try.prog 34 #[.pointer (some ⟨bx, 0, none⟩), .pointer (some ⟨by_, 0, none⟩)] h K ⟨⟩ := by
  refine n34_calls ?_
  unfold n34
  obtain ⟨x0, x1, x2⟩ := ox
  obtain ⟨y0, y1, y2⟩ := oy
  by_cases e : bx = by_
  · subst e
    refine Hp_neqPtr_eq (by kernel_rfl) ?_
    simp only [decide_true, Bool.not_true, Bool.false_and] at H
    simp (disch := omega)
    exact H
  · refine Hp_neqPtr_ne (by kernel_rfl) e hx.loose hy.loose ?_
    unfold agst at H
    simp only [e, decide_false, Bool.not_false, Bool.true_and] at H
    have c0 := hx.c1; have c1 := hx.c2; have c2 := hx.c3
    have d0 := hy.c1; have d1 := hy.c2; have d2 := hy.c3
    generalize x.al = p at *
    generalize y.al = q at *
    have fin : ∀ (p : Prop) [Decidable p] (b : Bool), K (.bool (true && decide p)) h → (p → b = true) → (¬ p → b = false) → K (.bool b) h := fun p _ b hK h1 h2 => by
      by_cases hp : p
      · rw [h1 hp]; simpa [hp] using hK
      · rw [h2 hp]; simpa [hp] using hK
    cases p <;> cases q <;> simp (disch := omega) [c0, c1, c2, d0, d1, d2, Hp_max2, Hp_min2]
    · exact H
    all_goals
      refine Split.mk (fun hc => ?_) (fun hc => ?_)
      · simp
        rw [decide_eq_true hc] at H
        exact H
      · simp
        rw [decide_eq_false hc] at H
        exact H
end Go.Proofs.Ytlligpgjkmfhpaa
set_option linter.unusedSimpArgs false
set_option linter.unusedVariables false
namespace Go.Proofs.Ytlligpgjkmfhpaa
open Go.Vc
variable {K : Value → Heap → Prop} {h : Heap}

/-- A request, its number, its block. -/
structure Rb where
  key : Int
  b : Nat
  r : Rq
def mapL (H : List Rb) : List (Int × Value) := H.map fun x => (x.key, ptrV x.b)
def RbAt (h : Heap) (x : Rb) : Prop := RqAt h x.b x.r ∧ x.r.ok
theorem RbAt.ext {h' : Heap} {x : Rb} (a : RbAt h x) (e : Ext h h') : RbAt h' x := ⟨a.1.ext e, a.2⟩
theorem RbAt.mod {S : Nat → Prop} {h' : Heap} {x : Rb} (a : RbAt h x) (e : Mod S h h') (hS : ¬ S x.b) : RbAt h' x := ⟨a.1.mod e hS, a.2⟩

theorem lockKey : KeyT Try.prog 53 Int (.int .i64) := KeyT.int (by kernel_rfl)

/-- What a predicate on requests tells. -/
def Tells (h : Heap) (f : Value) (xs : List Rb) (p : Rb → Bool) : Prop :=
  ∀ x ∈ xs, ∀ (h' : Heap) (K : Value → Heap → Prop), Ext h h' → (∀ h'', Ext h' h'' → K (.bool (p x)) h'') → InvokeH Try.prog f #[ptrV x.b] h' K ⟨⟩
theorem Tells.ext {h' : Heap} {f : Value} {xs : List Rb} {p : Rb → Bool} (a : Tells h f xs p) (e : Ext h h') : Tells h' f xs p := fun x hx g K e' H => a x hx g K (e.trans e') H

theorem against_tells {b : Nat} {r : Rq} {xs : List Rb} (hr : RqAt h b r) (ho : r.ok) (hx : ∀ x ∈ xs, RbAt h x) : Tells h (.func (.func 34) #[ptrV b] #[]) xs (fun x => !decide (b = x.b) && agst r x.r) := by
  intro x hxs h' K e H
  refine InvokeH_func (by kernel_rfl) ?_
  exact against_c (hr.ext e) ((hx x hxs).1.ext e) ho (hx x hxs).2 (H h' (.refl _))

theorem holds_c {p m : Nat} {wv tkv f : Value} {H : List Rb} {pr : Rb → Bool} (hp : h[p]? = some (.cells #[.map (some m), wv, tkv] 57)) (hm : MapK (.int .i64) h m (mapL H)) (hf : Tells h f H pr)
    (hK : ∀ h', Ext h h' → K (.bool (H.any pr)) h') : CallsH Try.prog 32 #[ptrV p, f] h K ⟨⟩ := by
  refine n32_calls ?_
  unfold n32 ptrV
  have c0 := cellOf hp (i := 0) rfl
  simp (disch := omega) [c0]
  refine Hp_rangeM (by kernel_rfl) hm fun h1 e1 hit hs1 => ?_
  refine loopMap0 (fun I g => Ext h g ∧ ∀ i (hi : i < H.length), i ∈ I → pr H[i] = false) hit ⟨e1, fun i hi x => absurd x (by simp)⟩ ?_
  rintro I g hI hn hlt ⟨e2, hno⟩ X hX
  have hl : (mapL H).length = H.length := by simp [mapL]
  refine Hp_next hI (fun i hi hiI g' m' hI' => ?_) (fun hall => ?_)
  · simp (disch := omega)
    have hiH : i < H.length := by omega
    have he : ((mapL H)[i]).2 = ptrV H[i].b := by simp [mapL]
    rw [Hp_entry hI' hi]
    simp (disch := omega) [he]
    have e3 : Ext h g' := m'.ext_from e2 (fun b hb e => by omega)
    refine hf H[i] (List.getElem_mem _) g' _ e3 fun g'' e4 => ?_
    cases hpi : pr H[i] with
    | true =>
      simp (disch := omega)
      have : H.any pr = true := List.any_eq_true.2 ⟨_, List.getElem_mem hiH, hpi⟩
      rw [this] at hK
      exact hK _ (e3.trans e4)
    | false =>
      simp (disch := omega)
      refine hX i g'' hiI hi (hI'.ext e4) ⟨e3.trans e4, fun j hj hjI => ?_⟩
      rcases List.mem_append.1 hjI with x | x
      · exact hno j hj x
      · simp at x; subst x; exact hpi
  · simp (disch := omega)
    have : H.any pr = false := by
      rw [List.any_eq_false]
      intro x hx
      obtain ⟨i, hi, rfl⟩ := List.getElem_of_mem hx
      simp [hno i hi (hall i (by omega))]
    rw [this] at hK
    exact hK _ e2

/-- The pointers of requests. -/
def ptrs (W : List Rb) : List Value := W.map fun x => ptrV x.b
def lnT : Nat := 59
theorem ptrs_len (W : List Rb) : (ptrs W).length = W.length := by simp [ptrs]

theorem IndexFunc_c {v f : Value} {W : List Rb} {pr : Rb → Bool} (hv : OwnT lnT 1 h v (ptrs W)) (hl : W.length < 1000000) (hf : Tells h f W pr)
    (hK : ∀ h', Ext h h' → K (.int .i64 (match W.findIdx? pr with | some i => (i : Int) | none => -1)) h') : CallsH Try.prog 45 #[v, f] h K ⟨⟩ := by
  refine n45_calls ?_
  unfold n45
  obtain ⟨a, n, c, rfl, hn, hc, hne⟩ := hv.form (by omega)
  rw [ptrs_len, Nat.mul_one] at hn
  subst hn
  simp (disch := omega)
  refine loopA1 (fun i : Nat => .int .i64 i) (fun i g => Ext h g ∧ i ≤ W.length ∧ ∀ j (hj : j < W.length), j < i → pr W[j] = false) (fun i => W.length - i) 0 rfl ⟨.refl _, by omega, fun j _ hj => by omega⟩ ?_
  rintro i g ⟨e1, hi, hno⟩
  by_cases hin : i = W.length
  · simp (disch := omega) [hin]
    have : W.findIdx? pr = none := List.findIdx?_eq_none_iff.2 fun x hx => by
      obtain ⟨j, hj, rfl⟩ := List.getElem_of_mem hx
      simp [hno j hj (by omega)]
    rw [this] at hK
    exact hK g e1
  · have hil : i < W.length := by omega
    obtain ⟨b, rfl⟩ := hne (by intro x; have := ptrs_len W; rw [x] at this; simp at this; omega)
    have hcl := ((hv.ext e1).elt (i := i) (by rw [ptrs_len]; exact hil)).1
    have hpe : (ptrs W)[i]'(by rw [ptrs_len]; exact hil) = ptrV W[i].b := by simp [ptrs]
    rw [hpe] at hcl
    simp (disch := omega) [hcl]
    refine hf W[i] (List.getElem_mem _) g _ e1 fun g' e2 => ?_
    cases hpi : pr W[i] with
    | true =>
      simp (disch := omega)
      have : W.findIdx? pr = some i := by
        rw [List.findIdx?_eq_some_iff_getElem]
        exact ⟨hil, hpi, fun j hj => by simp [hno j (by omega) hj]⟩
      rw [this] at hK
      exact hK _ (e1.trans e2)
    | false =>
      simp (disch := omega)
      refine ⟨i + 1, by simp, ⟨e1.trans e2, by omega, fun j hj hji => ?_⟩, by omega⟩
      by_cases e : j = i
      · subst e; exact hpi
      · exact hno j hj (by omega)

theorem ContainsFunc_c {v f : Value} {W : List Rb} {pr : Rb → Bool} (hv : OwnT lnT 1 h v (ptrs W)) (hl : W.length < 1000000) (hf : Tells h f W pr)
    (hK : ∀ h', Ext h h' → K (.bool (W.any pr)) h') : CallsH Try.prog 47 #[v, f] h K ⟨⟩ := by
  refine n47_calls ?_
  unfold n47
  refine IndexFunc_c hv hl hf fun h' e => ?_
  have key := hK h' e
  cases hi : W.findIdx? pr with
  | none =>
    have : W.any pr = false := by
      rw [List.any_eq_false]
      intro x hx
      have := List.findIdx?_eq_none_iff.1 hi x hx
      simp [this]
    rw [this] at key
    simp (disch := omega)
    exact key
  | some i =>
    have : W.any pr = true := by
      obtain ⟨hl, hp, -⟩ := List.findIdx?_eq_some_iff_getElem.1 hi
      exact List.any_eq_true.2 ⟨_, List.getElem_mem hl, hp⟩
    rw [this] at key
    simp (disch := omega)
    exact key
end Go.Proofs.Ytlligpgjkmfhpaa
