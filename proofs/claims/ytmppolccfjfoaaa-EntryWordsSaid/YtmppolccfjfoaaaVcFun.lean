/- The condition of a whole body, loops by an invariant and a measure; a function's contract out of it. -/
import Derived.Test.YtmppolccfjfoaaaVcRegion
namespace Go.Vc
open Go

/-- Predicates on n values and the heap, one value after the other. -/
def Cur : Nat → Type
  | 0 => Heap → Prop
  | n + 1 => Value → Cur n

def CurN : Nat → Type
  | 0 => Heap → Nat
  | n + 1 => Value → CurN n

def curry : (n : Nat) → (List Value → Heap → Prop) → Cur n
  | 0, f => f []
  | n + 1, f => fun v => curry n fun vs => f (v :: vs)

def appC : (n : Nat) → Cur n → List Value → Heap → Prop
  | 0, X, _, h => X h
  | n + 1, X, v :: vs, h => appC n (X v) vs h
  | _ + 1, _, [], _ => False

def appN : (n : Nat) → CurN n → List Value → Heap → Nat
  | 0, X, _, h => X h
  | n + 1, X, v :: vs, h => appN n (X v) vs h
  | _ + 1, _, [], _ => 0

theorem appC_curry : ∀ (n : Nat) (f : List Value → Heap → Prop) (vs : List Value) (h : Heap), vs.length = n → (appC n (curry n f) vs h ↔ f vs h)
  | 0, f, [], h, _ => Iff.rfl
  | n + 1, f, v :: vs, h, hl => by
    show appC n (curry n fun vs => f (v :: vs)) vs h ↔ _
    exact appC_curry n (fun vs => f (v :: vs)) vs h (by simpa using hl)

/-- A place where ways meet, n values handed on. -/
structure JoinN (n : Nat) (F : Cur n → Heap → Prop) (K : Cur n) (h : Heap) (u : Un F) (u' : Un K) : Prop where
  out : F K h

/-- A loop: an invariant and a measure. -/
structure LoopC (n : Nat) (body : Cur n → Cur n) (init : List Value) (h : Heap) (u : Un body) : Prop where
  out : ∃ (I : Cur n) (μ : CurN n), appC n I init h ∧ ∀ (vs : List Value) (h : Heap), vs.length = n → appC n I vs h → appC n (body (curry n fun vs' h' => appC n I vs' h' ∧ appN n μ vs' h' < appN n μ vs h)) vs h

/-- Where ways meet: which temporaries go on (none: nothing is said). -/
inductive Ann where
  | l
  | n (m : Option (List Nat)) (a b : Ann)

def Ann.fst : Ann → Ann | .l => .l | .n _ a _ => a
def Ann.snd : Ann → Ann | .l => .l | .n _ _ b => b
def Ann.ms : Ann → Option (List Nat) | .l => none | .n m _ _ => m

def valsK (ρ : Env) : List Nat → (List Value → Prop) → Prop
  | [], k => k []
  | t :: ts, k => match ρ t with
    | some v => valsK ρ ts fun vs => k (v :: vs)
    | none => False

def elemB (t : Nat) : List Nat → Bool
  | [] => false
  | x :: xs => Nat.beq t x || elemB t xs

def joinEnv (ρ : Env) (x : List Nat) : List Nat → List Value → Env
  | t :: ts, v :: vs => (joinEnv ρ x ts vs).put t v
  | _, _ => fun t => bif elemB t x then none else ρ t

def dsts : List Oper → List Nat
  | [] => []
  | o :: os => match o.dst with
    | some d => d :: dsts os
    | none => dsts os

def assigned : Code → List Nat
  | .region _ ops _ => dsts ops.toList
  | .seq a b => assigned a ++ assigned b
  | .cond _ a b => assigned a ++ assigned b
  | .block _ a => assigned a
  | .loop a => assigned a
  | .scope a => assigned a
  | _ => []

def condB (v : Value) (yes no : Prop) : Prop :=
  match v with
  | .bool b => if b = true then yes else no
  | _ => False

structure CondP (v : Value) (yes no : Prop) (u : Un yes) (u' : Un no) : Prop where
  out : condB v yes no

def opK (ρ : Env) (x : Operand) (k : Value → Prop) : Prop :=
  match opv ρ x with
  | some v => k v
  | none => False

def vc (P : Program) (n : Nat) : Code → Ann → Env → (Env → Heap → Prop) → (Nat → Env → Heap → Prop) → (Env → Heap → Prop) → Heap → Prop
  | .skip, _, ρ, N, _, _, h => N ρ h
  | .label _, _, ρ, N, _, _, h => N ρ h
  | .ret, _, ρ, _, _, R, h => R ρ h
  | .exit id, _, ρ, _, E, _, h => E id ρ h
  | .region _ ops d, _, ρ, N, _, _, h => vcRegion P n ops d ρ N h
  | .seq x y, A, ρ, N, E, R, h => match A.ms with
    | some ms => JoinN ms.length (fun k h => vc P n x A.fst ρ (fun ρ' h' => valsK ρ' ms fun vs => appC ms.length k vs h') E R h)
        (curry ms.length fun vs h' => vc P n y A.snd (joinEnv ρ (assigned x) ms vs) N E R h') h ⟨⟩ ⟨⟩
    | none => vc P n x A.fst ρ (fun ρ' h' => vc P n y A.snd ρ' N E R h') E R h
  | .cond c x y, A, ρ, N, E, R, h => opK ρ c fun v => CondP v (vc P n x A.fst ρ N E R h) (vc P n y A.snd ρ N E R h) ⟨⟩ ⟨⟩
  | .block id x, A, ρ, N, E, R, h => match A.ms with
    | some ms => JoinN ms.length (fun k h => vc P n x A.fst ρ (fun ρ' h' => valsK ρ' ms fun vs => appC ms.length k vs h')
          (fun id' ρ' h' => bif Nat.beq id' id then (valsK ρ' ms fun vs => appC ms.length k vs h') else E id' ρ' h') R h)
        (curry ms.length fun vs h' => N (joinEnv ρ (assigned x) ms vs) h') h ⟨⟩ ⟨⟩
    | none => vc P n x A.fst ρ N (fun id' ρ' h' => bif Nat.beq id' id then N ρ' h' else E id' ρ' h') R h
  | .loop x, A, ρ, _, E, R, h => match A.ms with
    | some ms => valsK ρ ms fun vs0 => LoopC ms.length (fun X => curry ms.length fun vs h' =>
        vc P n x A.fst (joinEnv ρ (assigned x) ms vs) (fun ρ' h'' => valsK ρ' ms fun vs' => appC ms.length X vs' h'') E R h') vs0 h ⟨⟩
    | none => False
  | .scope x, A, ρ, N, E, R, h => vc P n x A.fst ρ N E R h
  | .goto _, _, _, _, _, _, _ => False
  | .rangeFunc .., _, _, _, _, _, _ => False
  | .refuse _, _, _, _, _, _, _ => False

/-- What holds at each way out. -/
def QK (n : Nat) (ds : Nat → Prop) (N : Env → Heap → Prop) (E : Nat → Env → Heap → Prop) (R : Env → Heap → Prop) (a₀ : Act) (w₀ : World) : Exit → Act → World → Prop
  | .normal, a, w => After n ds N a₀ w₀ a w
  | .exit id, a, w => After n ds (E id) a₀ w₀ a w
  | .ret, a, w => After n ds R a₀ w₀ a w
  | _, _, _ => False

theorem After.from {n : Nat} {ds ds' : Nat → Prop} {K : Env → Heap → Prop} {a₀ a₁ a : Act} {w₀ w₁ w : World} (hs : Same w₀ w₁) (hf : Fr ds' a₀ a₁) (hd : ∀ t, ds t → ds' t) (h : After n ds K a₁ w₁ a w) : After n ds' K a₀ w₀ a w :=
  ⟨hs.trans h.same, hf.trans fun t ht => h.fr t fun hh => ht (hd t hh), h.env⟩

theorem After.weak {n : Nat} {ds ds' : Nat → Prop} {K : Env → Heap → Prop} {a₀ a : Act} {w₀ w : World} (hd : ∀ t, ds t → ds' t) (h : After n ds K a₀ w₀ a w) : After n ds' K a₀ w₀ a w :=
  ⟨h.same, fun t ht => h.fr t fun hh => ht (hd t hh), h.env⟩

theorem QK.from {n : Nat} {ds ds' : Nat → Prop} {N : Env → Heap → Prop} {E : Nat → Env → Heap → Prop} {R : Env → Heap → Prop} {a₀ a₁ : Act} {w₀ w₁ : World} (hs : Same w₀ w₁) (hf : Fr ds' a₀ a₁) (hd : ∀ t, ds t → ds' t) :
    ∀ (e : Exit) (a : Act) (w : World), QK n ds N E R a₁ w₁ e a w → QK n ds' N E R a₀ w₀ e a w := by
  intro e a w h
  cases e <;> first | exact After.from hs hf hd h | exact h

theorem getD_of_some {xs : Array Value} {t : Nat} {v : Value} (h : xs[t]? = some v) : xs.getD t undef = v := by
  rw [Array.getD_eq_getD_getElem?, h]; rfl

theorem valsK_spec {n : Nat} {ρ : Env} {a : Act} (s : St n ρ a) : ∀ (ms : List Nat) (k : List Value → Prop), valsK ρ ms k → k (ms.map fun t => a.tmps.getD t undef) ∧ ∀ t ∈ ms, a.tmps[t]? = some (a.tmps.getD t undef)
  | [], k, h => ⟨h, fun t ht => by cases ht⟩
  | t :: ts, k, h => by
    unfold valsK at h
    cases hv : ρ t with
    | none => rw [hv] at h; exact h.elim
    | some v =>
      rw [hv] at h
      have e := s.tmps t v hv
      obtain ⟨h1, h2⟩ := valsK_spec s ts _ h
      refine ⟨by rw [List.map_cons, getD_of_some e]; exact h1, fun u hu => ?_⟩
      rcases List.mem_cons.1 hu with rfl | hu
      · rw [getD_of_some e]; exact e
      · exact h2 u hu

theorem elemB_iff (t : Nat) : ∀ l : List Nat, elemB t l = true ↔ t ∈ l
  | [] => by simp [elemB]
  | x :: xs => by simp [elemB, elemB_iff t xs, Nat.beq_eq]

theorem St.join {n : Nat} {ρ : Env} {a₀ a : Act} {x : List Nat} (s : St n ρ a₀) (hf : Fr (· ∈ x) a₀ a) (hsz : a.tmps.size = n) (hd : a.defers = []) :
    ∀ (ms : List Nat), (∀ t ∈ ms, a.tmps[t]? = some (a.tmps.getD t undef)) → St n (joinEnv ρ x ms (ms.map fun t => a.tmps.getD t undef)) a
  | [], _ => by
    refine ⟨⟨fun t v hv => ?_⟩, hsz, hd⟩
    unfold joinEnv at hv
    cases he : elemB t x with
    | true => rw [he] at hv; cases hv
    | false =>
      rw [he] at hv
      rw [hf t (fun hm => by rw [(elemB_iff t x).2 hm] at he; cases he)]
      exact s.tmps t v hv
  | m :: ms, hms => by
    have ih := St.join s hf hsz hd ms (fun t ht => hms t (List.mem_cons_of_mem _ ht))
    refine ⟨⟨fun t v hv => ?_⟩, hsz, hd⟩
    have hv' : (joinEnv ρ x ms (ms.map fun t => a.tmps.getD t undef)).put m (a.tmps.getD m undef) t = some v := hv
    unfold Env.put at hv'
    by_cases h : t = m
    · subst h
      rw [show Nat.beq t t = true from Nat.beq_refl t] at hv'
      simp only [cond_true, Option.some.injEq] at hv'
      rw [← hv']; exact hms t (List.mem_cons_self ..)
    · rw [show Nat.beq t m = false from Bool.eq_false_iff.2 fun e => h (Nat.eq_of_beq_eq_true e)] at hv'
      exact ih.tmps t v hv'

theorem dstIn_dsts (ops : Array Oper) : dstIn ops (· ∈ dsts ops.toList) := by
  intro i o d ho hd
  have key : ∀ (l : List Oper), o ∈ l → d ∈ dsts l := by
    intro l
    induction l with
    | nil => intro h; cases h
    | cons x xs ih =>
      intro h
      unfold dsts
      rcases List.mem_cons.1 h with rfl | h
      · rw [hd]; exact List.mem_cons_self ..
      · cases x.dst with
        | none => exact ih h
        | some e => exact List.mem_cons_of_mem _ (ih h)
  exact key _ (Array.mem_toList_iff.2 (Array.mem_of_getElem? ho))

theorem opK_spec {ρ : Env} {a : Act} (ha : Agree ρ a) {x : Operand} {k : Value → Prop} (h : opK ρ x k) : k (a.eval x) := by
  unfold opK at h
  cases hv : opv ρ x with
  | none => rw [hv] at h; exact h.elim
  | some v =>
    rw [hv] at h
    have := ev_agree ha (xs := [x]) (by simp [known, hv]) x (List.mem_singleton.2 rfl)
    rw [this]; unfold ev; rw [hv]; exact h

theorem vc_wp {P : Program} (hm : P.follows .mixedOrders = true) {n : Nat} : ∀ (c : Code) (A : Ann) (ρ : Env) (N : Env → Heap → Prop) (E : Nat → Env → Heap → Prop) (R : Env → Heap → Prop) (a : Act) (w : World), St n ρ a →
    vc P n c A ρ N E R w.heap → c.wp P (QK n (· ∈ assigned c) N E R a w) a w := by
  intro c
  induction c with
  | skip => exact fun A ρ N E R a w s h => wp_skip ⟨.refl _, .refl _ _, ρ, s, h⟩
  | label l => exact fun A ρ N E R a w s h => wp_label ⟨.refl _, .refl _ _, ρ, s, h⟩
  | ret => exact fun A ρ N E R a w s h => wp_ret ⟨.refl _, .refl _ _, ρ, s, h⟩
  | exit id => exact fun A ρ N E R a w s h => wp_exit ⟨.refl _, .refl _ _, ρ, s, h⟩
  | region id ops d => exact fun A ρ N E R a w s h => vcRegion_wp hm (dstIn_dsts ops) (fun _ _ hh => hh) (fun _ _ _ _ hh => hh) s h
  | goto l => exact fun A ρ N E R a w s h => h.elim
  | rangeFunc f ps as b _ _ => exact fun A ρ N E R a w s h => h.elim
  | refuse s => exact fun A ρ N E R a w s h => h.elim
  | scope x ih =>
    intro A ρ N E R a w s h
    refine wp_scope_straight (wp_mono (ih A.fst ρ N E R a w s h) ?_)
    intro e a' w' hq
    cases e <;> exact hq
  | cond c x y ihx ihy =>
    intro A ρ N E R a w s h
    have h1 := (opK_spec s.toAgree h).out
    generalize hv : a.eval c = v at h1
    unfold condB at h1
    split at h1
    · rename_i b
      refine wp_cond hv ?_
      cases b with
      | true =>
        simp only [if_true] at h1 ⊢
        exact wp_mono (ihx A.fst ρ N E R a w s h1) (QK.from (.refl _) (.refl _ _) fun t ht => List.mem_append_left _ ht)
      | false =>
        simp only [Bool.false_eq_true, if_false] at h1 ⊢
        exact wp_mono (ihy A.snd ρ N E R a w s h1) (QK.from (.refl _) (.refl _ _) fun t ht => List.mem_append_right _ ht)
    · exact h1.elim
  | seq x y ihx ihy =>
    intro A ρ N E R a w s h
    unfold vc at h
    refine wp_seq ?_
    cases hms : A.ms with
    | none =>
      rw [hms] at h
      refine wp_mono (ihx A.fst ρ _ E R a w s h) ?_
      intro e a' w' hq
      cases e with
      | normal =>
        obtain ⟨hs, hf, ρ', s', hk⟩ := hq
        exact wp_mono (ihy A.snd ρ' N E R a' w' s' hk) (QK.from hs (fun t ht => hf t fun hh => ht (List.mem_append_left _ hh)) fun t ht => List.mem_append_right _ ht)
      | exit id => exact After.weak (fun t ht => List.mem_append_left _ ht) hq
      | ret => exact After.weak (fun t ht => List.mem_append_left _ ht) hq
      | goto l => exact hq
      | panic c => exact hq
      | outgrown => exact hq
    | some ms =>
      rw [hms] at h
      replace h := h.out
      refine wp_mono (ihx A.fst ρ _ E R a w s h) ?_
      intro e a' w' hq
      cases e with
      | normal =>
        obtain ⟨hs, hf, ρ', s', hk⟩ := hq
        obtain ⟨h1, h2⟩ := valsK_spec s' ms _ hk
        rw [appC_curry _ _ _ _ (by simp)] at h1
        have s'' := St.join s hf s'.size s'.defers ms h2
        exact wp_mono (ihy A.snd _ N E R a' w' s'' h1) (QK.from hs (fun t ht => hf t fun hh => ht (List.mem_append_left _ hh)) fun t ht => List.mem_append_right _ ht)
      | exit id => exact After.weak (fun t ht => List.mem_append_left _ ht) hq
      | ret => exact After.weak (fun t ht => List.mem_append_left _ ht) hq
      | goto l => exact hq
      | panic c => exact hq
      | outgrown => exact hq
  | block id x ih =>
    intro A ρ N E R a w s h
    unfold vc at h
    refine wp_block ?_
    cases hms : A.ms with
    | none =>
      rw [hms] at h
      refine wp_mono (ih A.fst ρ N _ R a w s h) ?_
      intro e a' w' hq
      cases e with
      | exit id' =>
        unfold Exit.inBlock
        have hq' : After n _ (fun ρ' h' => bif Nat.beq id' id then N ρ' h' else E id' ρ' h') a w a' w' := hq
        by_cases hid : id' = id
        · subst hid
          simp only [Nat.beq_refl, cond_true] at hq'
          simp only [if_true]; exact hq'
        · rw [show Nat.beq id' id = false from Bool.eq_false_iff.2 fun e => hid (Nat.eq_of_beq_eq_true e)] at hq'
          simp only [hid, if_false]; exact hq'
      | normal => exact hq
      | ret => exact hq
      | goto l => exact hq
      | panic c => exact hq
      | outgrown => exact hq
    | some ms =>
      rw [hms] at h
      replace h := h.out
      refine wp_mono (ih A.fst ρ _ _ R a w s h) ?_
      have fin : ∀ a' w', After n (· ∈ assigned x) (fun ρ' h' => valsK ρ' ms fun vs => appC ms.length (curry ms.length fun vs h' => N (joinEnv ρ (assigned x) ms vs) h') vs h') a w a' w' → After n (· ∈ assigned x) N a w a' w' := by
        intro a' w' ⟨hs, hf, ρ', s', hk⟩
        obtain ⟨h1, h2⟩ := valsK_spec s' ms _ hk
        rw [appC_curry _ _ _ _ (by simp)] at h1
        exact ⟨hs, hf, _, St.join s hf s'.size s'.defers ms h2, h1⟩
      intro e a' w' hq
      cases e with
      | exit id' =>
        unfold Exit.inBlock
        have hq' : After n _ (fun ρ' h' => bif Nat.beq id' id then (valsK ρ' ms fun vs => appC ms.length (curry ms.length fun vs h' => N (joinEnv ρ (assigned x) ms vs) h') vs h') else E id' ρ' h') a w a' w' := hq
        by_cases hid : id' = id
        · subst hid
          simp only [Nat.beq_refl, cond_true] at hq'
          simp only [if_true]; exact fin a' w' hq'
        · rw [show Nat.beq id' id = false from Bool.eq_false_iff.2 fun e => hid (Nat.eq_of_beq_eq_true e)] at hq'
          simp only [hid, if_false]; exact hq'
      | normal => exact fin a' w' hq
      | ret => exact hq
      | goto l => exact hq
      | panic c => exact hq
      | outgrown => exact hq
  | loop x ih =>
    intro A ρ N E R a w s h
    unfold vc at h
    cases hms : A.ms with
    | none => rw [hms] at h; exact h.elim
    | some ms =>
      rw [hms] at h
      obtain ⟨⟨⟨I, μ, h0, hround⟩⟩, h2⟩ := valsK_spec s ms _ h
      refine wp_loop (fun a' w' => Same w w' ∧ Fr (· ∈ assigned x) a a' ∧ appC ms.length I (ms.map fun t => a'.tmps.getD t undef) w'.heap ∧ St n (joinEnv ρ (assigned x) ms (ms.map fun t => a'.tmps.getD t undef)) a')
        (fun a' w' => appN ms.length μ (ms.map fun t => a'.tmps.getD t undef) w'.heap) ⟨.refl _, .refl _ _, h0, St.join s (.refl _ _) s.size s.defers ms h2⟩ ?_
      intro a' w' ⟨hs, hf, hI, s'⟩
      have hr := hround _ w'.heap (by simp) hI
      rw [appC_curry _ _ _ _ (by simp)] at hr
      refine wp_mono (ih A.fst _ _ E R a' w' s' hr) ?_
      intro e a'' w'' hq
      cases e with
      | normal =>
        obtain ⟨hs', hf', ρ', s'', hk⟩ := hq
        obtain ⟨h1, h2'⟩ := valsK_spec s'' ms _ hk
        rw [appC_curry _ _ _ _ (by simp)] at h1
        exact ⟨⟨hs.trans hs', hf.trans hf', h1.1, St.join s (hf.trans hf') s''.size s''.defers ms h2'⟩, h1.2⟩
      | exit id => exact After.from hs hf (fun _ ht => ht) hq
      | ret => exact After.from hs hf (fun _ ht => ht) hq
      | goto l => exact hq
      | panic c => exact hq
      | outgrown => exact hq

/-! ### A function's contract -/

def getV : List Value → Nat → Value
  | [], _ => undef
  | v :: _, 0 => v
  | _ :: vs, t + 1 => getV vs t

def initEnv (args : List Value) (n : Nat) : Env := fun t => bif Nat.blt t n then some (getV args t) else none

def loadCell (t : TypeId) (v : Value) : Sem Value := do loadVar t (← asAddr v)

def resK (P : Program) : List ResultVar → Env → Heap → (List Value → Prop) → Prop
  | [], _, _, k => k []
  | .tmp t :: r, ρ, h, k => match ρ t with
    | some v => resK P r ρ h fun vs => k (v :: vs)
    | none => False
  | .cell a t :: r, ρ, h, k => match ρ a with
    | some v => Hp P true (loadCell t v) (fun x _ => resK P r ρ h fun vs => k (x :: vs)) h ⟨⟩
    | none => False

def finV : List Value → Value
  | [v] => v
  | vs => .tuple vs.toArray

def rvS (a : Act) : ResultVar → Sem Value
  | .tmp t => pure (a.tmps.getD t undef)
  | .cell x t => do loadVar t (← asAddr (a.tmps.getD x undef))

theorem run_mapM_cons {P : Program} {f : ResultVar → Sem Value} {x : ResultVar} {r : List ResultVar} {w : World} {v : Value} {vs : List Value} (h1 : (f x).run P w = .ok v w) (h2 : (r.mapM f).run P w = .ok vs w) :
    ((x :: r).mapM f).run P w = .ok (v :: vs) w := by
  rw [List.mapM_cons]
  show (Sem.bind _ _).run P w = _
  rw [Sem.run_bind', h1]
  show (Sem.bind _ _).run P w = _
  rw [Sem.run_bind', h2]
  rfl

theorem resK_run {P : Program} {ρ : Env} {a : Act} (ha : Agree ρ a) {h : Heap} : ∀ (rs : List ResultVar) (k : List Value → Prop), resK P rs ρ h k →
    ∃ vs, k vs ∧ ∀ w : World, Ext h w.heap → (rs.mapM (rvS a)).run P w = .ok vs w
  | [], k, hk => ⟨[], hk, fun w _ => rfl⟩
  | .tmp t :: r, k, hk => by
    unfold resK at hk
    cases hv : ρ t with
    | none => rw [hv] at hk; exact hk.elim
    | some v =>
      rw [hv] at hk
      obtain ⟨vs, h1, h2⟩ := resK_run ha r _ hk
      refine ⟨v :: vs, h1, fun w he => run_mapM_cons ?_ (h2 w he)⟩
      show Result.ok (a.tmps.getD t undef) w = _
      rw [getD_of_some (ha.tmps t v hv)]
  | .cell x t :: r, k, hk => by
    unfold resK at hk
    cases hv : ρ x with
    | none => rw [hv] at hk; exact hk.elim
    | some v =>
      rw [hv] at hk
      obtain ⟨u, hu, hr⟩ := hp_stable _ _ _ hk.out
      obtain ⟨vs, h1, h2⟩ := resK_run ha r _ hu
      refine ⟨u :: vs, h1, fun w he => run_mapM_cons ?_ (h2 w he)⟩
      have e := hr w he
      unfold loadCell at e
      show (do loadVar t (← asAddr (a.tmps.getD x undef)) : Sem Value).run P w = _
      rw [getD_of_some (ha.tmps x v hv)]; exact e

theorem results_run {P : Program} {ρ : Env} {a : Act} (ha : Agree ρ a) {h : Heap} {fn : Func} {k : List Value → Prop} (hk : resK P fn.results.toList ρ h k) :
    ∃ vs, k vs ∧ ∀ w : World, Ext h w.heap → (results fn a.tmps).run P w = .ok (finV vs) w := by
  obtain ⟨vs, h1, h2⟩ := resK_run ha _ _ hk
  refine ⟨vs, h1, fun w he => ?_⟩
  unfold results
  rw [Array.mapM_eq_mapM_toList]
  have e := h2 w he
  show (Sem.bind _ _).run P w = _
  rw [Sem.run_bind']
  show (((Functor.map List.toArray (fn.results.toList.mapM (rvS a)) : Sem (Array Value)).run P w).andThen _) = _
  rw [map_eq_pure_bind]
  show (((Sem.bind _ _).run P w).andThen _) = _
  rw [Sem.run_bind', e]
  simp only [Result.andThen_ok]
  show Result.ok _ w = _
  match vs with
  | [] => rfl
  | [v] => rfl
  | v :: u :: r =>
    congr 1

/-- The condition of a function's body. -/
def vcBody (P : Program) (n : Nat) (rs : List ResultVar) (c : Code) (A : Ann) (args : List Value) (R : Value → Heap → Prop) (h : Heap) : Prop :=
  vc P n c A (initEnv args n) (fun ρ h => resK P rs ρ h fun vs => R (finV vs) h) (fun _ _ _ => False) (fun ρ h => resK P rs ρ h fun vs => R (finV vs) h) h

theorem callsH_of_vc {P : Program} (hm : P.follows .mixedOrders = true) {f : FuncId} {fn : Func} {c : Code} {args : List Value} {h : Heap} {R : Value → Heap → Prop} {n : Nat} {rs : List ResultVar} (A : Ann)
    (hf : P.funcs[f]? = some fn) (hb : fn.body = some c) (hn : fn.ntmps = n) (hr : fn.results = rs.toArray) (hl : args.length ≤ n) (hv : vcBody P n rs c A args R h) : CallsH P f args.toArray h R ⟨⟩ := by
  refine ⟨fun w hw => ?_⟩
  subst hw
  have s : St n (initEnv args n) { tmps := args.toArray ++ Array.replicate (fn.ntmps - args.toArray.size) undef, defers := [] } := by
    refine ⟨⟨fun t v ht => ?_⟩, by simp; omega, rfl⟩
    unfold initEnv at ht
    cases hb : Nat.blt t n with
    | false => rw [hb] at ht; cases ht
    | true =>
      rw [hb] at ht
      simp only [cond_true, Option.some.injEq] at ht
      have hlt : t < n := by simpa [Nat.blt_eq] using hb
      have key : ∀ (l : List Value) (t : Nat), getV l t = l.getD t undef := by
        intro l
        induction l with
        | nil => intro t; rfl
        | cons x xs ih => intro t; cases t with
          | zero => rfl
          | succ t => simpa [getV] using ih t
      rw [key] at ht
      by_cases hta : t < args.length
      · rw [Array.getElem?_append_left (by simpa using hta)]
        simp [hta] at ht ⊢; exact ht
      · rw [Array.getElem?_append_right (by simpa using hta)]
        have hr : t - args.toArray.size < fn.ntmps - args.toArray.size := by simp; omega
        rw [Array.getElem?_replicate, if_pos hr]
        simp [hta] at ht
        rw [ht]
  refine calls_of_wp hf hb (wp_mono (vc_wp hm c A _ _ _ _ _ w s hv) ?_)
  have fin : ∀ a' w', After n (· ∈ assigned c) (fun ρ h => resK P rs ρ h fun vs => R (finV vs) h) { tmps := args.toArray ++ Array.replicate (fn.ntmps - args.toArray.size) undef, defers := [] } w a' w' →
      a'.defers = [] ∧ ∃ v, (results fn a'.tmps).run P w' = .ok v w' ∧ ∃ u, Ending.returned v = .returned u ∧ Same w w' ∧ R u w'.heap := by
    intro a' w' ⟨hs, _, ρ', s', hk⟩
    obtain ⟨vs, h1, h2⟩ := results_run (fn := fn) s'.toAgree (by rw [hr]; simpa using hk)
    exact ⟨s'.defers, finV vs, h2 w' (.refl _), finV vs, rfl, hs, h1⟩
  intro e a' w' hq
  cases e with
  | normal => exact fin a' w' hq
  | ret => exact fin a' w' hq
  | exit id =>
    obtain ⟨_, _, ρ', _, hk⟩ := hq
    exact hk.elim
  | goto l => exact hq.elim
  | panic c => exact hq.elim
  | outgrown => exact hq.elim

def bodyOf (fn : Func) : Code := match fn.body with | some c => c | none => .skip

theorem callsH_of_eq {P : Program} (hm : P.follows .mixedOrders = true) (A : Ann) {f : FuncId} {fn : Func} {args : List Value} {h : Heap} {R : Value → Heap → Prop} {Q : Prop}
    (hf : P.funcs[f]? = some fn) (hb : fn.body = some (bodyOf fn)) (hl : Nat.ble args.length fn.ntmps = true) (he : vcBody P fn.ntmps fn.results.toList (bodyOf fn) A args R h = Q) (H : Q) : CallsH P f args.toArray h R ⟨⟩ :=
  callsH_of_vc hm A hf hb rfl (Array.toArray_toList).symm (Nat.le_of_ble_eq_true hl) (by rw [he]; exact H)

end Go.Vc
