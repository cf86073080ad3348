/- Regions: their operations in the order of the text, or, where the order is drawn, readers first; and that this serves every order. -/
import Derived.Test.YtmppolccfjfoaaaVcCode
namespace Go.Vc
open Go

def isReader (P : Program) : Op → Bool
  | .move _ | .assign _ | .pick .. | .load .. | .nilCheck _ | .unOp .. | .fieldAddr .. | .field .. | .indexAddr .. | .index .. | .lookup .. | .extract .. | .slice .. | .makeFunc .. | .makeInterface .. | .build .. | .binOp .. => true
  | .convert s d _ => match P.underlying d, P.underlying s with
    | some (.slice _), _ => false
    | some _, some _ => true
    | _, _ => false
  | .call { callee := .builtin b, .. } => match b with
    | .len | .cap | .max | .min => true
    | _ => false
  | _ => false

theorem reader_exec {P : Program} {o : Oper} {σ : Operand → Value} (hr : isReader P o.op = true) (hn : ∀ x, o.op ≠ .nilCheck x) : ∃ m : Sem Value, execOp σ o = (do let v ← m; pure (.value v)) := by
  obtain ⟨dst, op, ty, pos, after, guard⟩ := o
  cases op with
  | move x => exact ⟨pure (σ x), rfl⟩
  | assign x => exact ⟨pure (σ x), rfl⟩
  | pick c a b => exact ⟨pickS (σ c) (σ a) (σ b), by unfold execOp; cases hc : σ c <;> simp only [hc] <;> rfl⟩
  | nilCheck x => exact absurd rfl (hn x)
  | call c =>
    obtain ⟨callee, args, ats⟩ := c
    cases callee with
    | builtin b => cases b <;> simp [isReader] at hr <;> exact ⟨_, rfl⟩
    | value f => simp [isReader] at hr
    | invoke r n => simp [isReader] at hr
  | load t a => exact ⟨_, rfl⟩
  | unOp op t x => exact ⟨_, rfl⟩
  | fieldAddr t x f => exact ⟨_, rfl⟩
  | field t x f => exact ⟨_, rfl⟩
  | indexAddr t x f => exact ⟨_, rfl⟩
  | index t x f => exact ⟨_, rfl⟩
  | lookup t x i ok => exact ⟨_, rfl⟩
  | extract x i => exact ⟨_, rfl⟩
  | slice t x l h m => exact ⟨_, rfl⟩
  | makeFunc f a b => exact ⟨_, rfl⟩
  | makeInterface t x => exact ⟨_, rfl⟩
  | build t ps => exact ⟨_, rfl⟩
  | binOp op t x y yt => exact ⟨_, rfl⟩
  | convert s d x => exact ⟨_, rfl⟩
  | _ => simp [isReader] at hr

theorem reader_noskip {P : Program} {o : Oper} {σ : Operand → Value} (hr : isReader P o.op = true) (hn : ∀ x, o.op ≠ .nilCheck x) {w w' : World} (h : (execOp σ o).run P w = .ok .skip w') : False := by
  obtain ⟨m, hm⟩ := reader_exec (σ := σ) hr hn
  rw [hm] at h
  have h' : (m.bind _).run P w = .ok Next.skip w' := h
  rw [Sem.run_bind'] at h'
  cases hx : m.run P w with
  | ok v w1 => rw [hx] at h'; cases h'
  | halt x w1 => rw [hx] at h'; cases h'

theorem vcOp_reads {P : Program} {o : Oper} {ρ : Env} {a : Act} {k : Value → Heap → Prop} {h : Heap} (hr : isReader P o.op = true) (ha : Agree ρ a) (hv : vcOp P true o ρ k h) :
    ∃ v, k v h ∧ ∀ w : World, Ext h w.heap → (execOp a.eval o).run P w = .ok (.value v) w := by
  by_cases hn : ∃ x, o.op = .nilCheck x
  · obtain ⟨x, hx⟩ := hn
    unfold vcOp at hv
    cases hk : (okOp o.op && known ρ (opsL o.op)) with
    | false => rw [hk] at hv; exact hv.elim
    | true =>
      rw [hk] at hv
      have he := exec_agree ha hk
      simp only [cond_true, hx] at hv
      obtain ⟨h1, h2⟩ := nilS_spec hv.out
      exact ⟨_, h1, fun w _ => by rw [he, h2 (ev ρ) o x hx rfl]; rfl⟩
  · obtain ⟨v, hk, hx⟩ := vcOp_stable ha hv
    exact ⟨v, hk, fun w he => (hx w he).elim id (fun ⟨h1, _⟩ => (reader_noskip hr (fun x e => hn ⟨x, e⟩) h1).elim)⟩

/-! ### Steps -/

/-- A place where ways meet: what follows is held once. -/
structure Join1 (F : (Value → Heap → Prop) → Heap → Prop) (K : Value → Heap → Prop) (h : Heap) (u : Un F) (u' : Un K) : Prop where
  out : F K h

def guardB (c : Value) (want : Bool) (yes no : Prop) : Prop :=
  match c with
  | .bool b => if b = want then yes else no
  | _ => no

structure guardP (c : Value) (want : Bool) (yes no : Prop) (u : Un yes) (u' : Un no) : Prop where
  out : guardB c want yes no

def putE (n : Nat) (dst : Option Nat) (v : Value) (ρ : Env) (k : Env → Prop) : Prop :=
  match dst with
  | none => k ρ
  | some d => bif Nat.blt d n then k (ρ.put d v) else False

def vcOpD (P : Program) (D : Option (Nat → Bool)) (i : Nat) (o : Oper) (ρ : Env) (k : Value → Heap → Prop) (h : Heap) : Prop :=
  match D with
  | none => vcOp P false o ρ k h
  | some fl => bif isReader P o.op then vcOp P true o ρ k h else bif fl i then vcOp P false o ρ (fun v h' => Ext h h' ∧ k v h') h else vcOp P false o ρ k h

def guardOf (ops : List Oper) (ρ : Env) (j : Nat) (k : Value → Prop) : Prop :=
  match ops[j]? with
  | some oj => match oj.dst with
    | some d => match ρ d with
      | some c => k c
      | none => False
    | none => False
  | none => False

def vcStep (P : Program) (ops : List Oper) (D : Option (Nat → Bool)) (i : Nat) (o : Oper) (ρ : Env) (k : Value → Heap → Prop) (h : Heap) : Prop :=
  match o.guard with
  | none => vcOpD P D i o ρ k h
  | some (j, want) => guardOf ops ρ j fun c => Join1 (fun k h => guardP c want (vcOpD P D i o ρ k h) (k undef h) ⟨⟩ ⟨⟩) k h ⟨⟩ ⟨⟩

def vcOps (P : Program) (ops : List Oper) (D : Option (Nat → Bool)) (n : Nat) : List Nat → Env → (Env → Heap → Prop) → Heap → Prop
  | [], ρ, K, h => K ρ h
  | i :: rest, ρ, K, h => match ops[i]? with
    | none => False
    | some o => vcStep P ops D i o ρ (fun v h' => putE n o.dst v ρ fun ρ' => vcOps P ops D n rest ρ' K h') h

structure St (n : Nat) (ρ : Env) (a : Act) : Prop extends Agree ρ a where
  size : a.tmps.size = n
  defers : a.defers = []

theorem St.put {n : Nat} {ρ : Env} {a : Act} (s : St n ρ a) {d : Nat} (hd : Nat.blt d n = true) (v : Value) : St n (ρ.put d v) (a.put (some d) v) where
  tmps t u hu := by
    have hd' : d < a.tmps.size := by rw [s.size]; simpa [Nat.blt_eq] using hd
    simp only [Act.put, Array.getElem?_setIfInBounds]
    unfold Env.put at hu
    by_cases h : t = d
    · subst h
      rw [show Nat.beq t t = true from Nat.beq_refl t] at hu
      simp only [cond_true, Option.some.injEq] at hu
      rw [if_pos rfl, if_pos hd', hu]
    · rw [show Nat.beq t d = false from Bool.eq_false_iff.2 fun e => h (Nat.eq_of_beq_eq_true e)] at hu
      rw [if_neg (Ne.symm h)]
      exact s.tmps t u hu
  size := by simp [Act.put, s.size]
  defers := s.defers

theorem putE_St {n : Nat} {ρ : Env} {a : Act} (s : St n ρ a) {dst : Option Nat} {v : Value} {k : Env → Prop} (h : putE n dst v ρ k) : ∃ ρ', St n ρ' (a.put dst v) ∧ k ρ' := by
  cases dst with
  | none => exact ⟨ρ, s, h⟩
  | some d =>
    unfold putE at h
    simp only at h
    cases hd : Nat.blt d n with
    | false => rw [hd] at h; exact h.elim
    | true => rw [hd] at h; exact ⟨_, s.put hd v, h⟩

section
variable {P : Program} {ops : Array Oper} {n : Nat} {ρ : Env} {a : Act} {w : World} {i : Nat} {o : Oper}

theorem wanted_of {j : Nat} {want : Bool} (s : Agree ρ a) (hg : o.guard = some (j, want)) {k : Value → Prop} (h : guardOf ops.toList ρ j k) :
    ∃ c, k c ∧ Region.wanted o (yielded ops a.tmps) = (match c with | .bool b => b == want | _ => false) := by
  unfold guardOf at h
  have e : ops.toList[j]? = ops[j]? := by simp
  rw [e] at h
  cases hj : ops[j]? with
  | none => rw [hj] at h; exact h.elim
  | some oj =>
    rw [hj] at h
    cases hd : oj.dst with
    | none => simp only [hd] at h
    | some d =>
      simp only [hd] at h
      cases hc : ρ d with
      | none => rw [hc] at h; exact h.elim
      | some c =>
        rw [hc] at h
        refine ⟨c, h, ?_⟩
        unfold Region.wanted
        rw [hg]
        have hy : yielded ops a.tmps j = (match c with | .bool b => some b | _ => none) := by
          unfold yielded
          rw [hj]
          simp only [Option.bind_some, hd, s.tmps d c hc]
          cases c <;> rfl
        simp only [hy]
        cases c <;> first | rfl | (rename_i b; cases b <;> cases want <;> rfl)

/-- A step where no order is drawn. -/
theorem vcStep_wp {k : Value → Heap → Prop} {next : Act → World → Prop} {Q : Exit → Act → World → Prop} (ha : Agree ρ a) (ho : ops[i]? = some o)
    (hv : vcStep P ops.toList none i o ρ k w.heap) (hn : ∀ v w', Same w w' → k v w'.heap → next (a.put o.dst v) w') : wpOp P ops Q i next a w := by
  unfold wpOp
  rw [ho]
  simp only
  unfold vcStep at hv
  cases hg : o.guard with
  | none =>
    rw [hg] at hv
    have hw : Region.wanted o (yielded ops a.tmps) = true := by unfold Region.wanted; rw [hg]
    rw [if_pos hw]
    exact .inl (vcOp_wp ha hv hn)
  | some g =>
    obtain ⟨j, want⟩ := g
    rw [hg] at hv
    obtain ⟨c, hc, hw⟩ := wanted_of ha hg hv
    rw [hw]
    replace hc := hc.out.out
    unfold guardB at hc
    cases c <;> first
      | (simp only [Bool.false_eq_true, if_false] at hc ⊢; exact hn _ _ (.refl _) hc)
      | (rename_i b
         simp only [beq_iff_eq] at hc ⊢
         by_cases hb : b = want
         · rw [if_pos hb] at hc ⊢; exact .inl (vcOp_wp ha hc hn)
         · rw [if_neg hb] at hc ⊢; exact hn _ _ (.refl _) hc)

/-- A writer's step where the order is drawn. -/
theorem vcStep_writer {fl : Nat → Bool} {k : Value → Heap → Prop} {next : Act → World → Prop} {Q : Exit → Act → World → Prop} (ha : Agree ρ a) (ho : ops[i]? = some o) (hr : isReader P o.op = false)
    (hv : vcStep P ops.toList (some fl) i o ρ k w.heap) (hn : ∀ v w', Same w w' → (fl i = true → Ext w.heap w'.heap) → k v w'.heap → next (a.put o.dst v) w') : wpOp P ops Q i next a w := by
  unfold wpOp
  rw [ho]
  simp only
  have step : vcOpD P (some fl) i o ρ k w.heap → o.wp P a w next Q := by
    intro hc
    unfold vcOpD at hc
    simp only [hr, cond_false] at hc
    cases hf : fl i with
    | true => rw [hf] at hc; simp only [cond_true] at hc; exact vcOp_wp ha hc (fun v w' hs hk => hn v w' hs (fun _ => hk.1) hk.2)
    | false => rw [hf] at hc; simp only [cond_false] at hc; exact vcOp_wp ha hc (fun v w' hs hk => hn v w' hs (fun e => by rw [hf] at e; cases e) hk)
  unfold vcStep at hv
  cases hg : o.guard with
  | none =>
    rw [hg] at hv
    have hw : Region.wanted o (yielded ops a.tmps) = true := by unfold Region.wanted; rw [hg]
    rw [if_pos hw]
    exact .inl (step hv)
  | some g =>
    obtain ⟨j, want⟩ := g
    rw [hg] at hv
    obtain ⟨c, hc, hw⟩ := wanted_of ha hg hv
    rw [hw]
    replace hc := hc.out.out
    unfold guardB at hc
    cases c <;> first
      | (simp only [Bool.false_eq_true, if_false] at hc ⊢; exact hn _ _ (.refl _) (fun _ => .refl _) hc)
      | (rename_i b
         simp only [beq_iff_eq] at hc ⊢
         by_cases hb : b = want
         · rw [if_pos hb] at hc ⊢; exact .inl (step hc)
         · rw [if_neg hb] at hc ⊢; exact hn _ _ (.refl _) (fun _ => .refl _) hc)

/-- A reader's step where the order is drawn. -/
theorem vcStep_reader {fl : Nat → Bool} {k : Value → Heap → Prop} {h : Heap} (ha : Agree ρ a) (hr : isReader P o.op = true)
    (hv : vcStep P ops.toList (some fl) i o ρ k h) : ∃ v, k v h ∧ YieldsIf P ops (fun w => Ext h w.heap) o v a := by
  have step : vcOpD P (some fl) i o ρ k h → Region.wanted o (yielded ops a.tmps) = true → ∃ v, k v h ∧ YieldsIf P ops (fun w => Ext h w.heap) o v a := by
    intro hc hw
    unfold vcOpD at hc
    simp only [hr, cond_true] at hc
    obtain ⟨v, hk, hx⟩ := vcOp_reads hr ha hc
    exact ⟨v, hk, .inl ⟨hw, fun w' he => hx w' he⟩⟩
  unfold vcStep at hv
  cases hg : o.guard with
  | none =>
    rw [hg] at hv
    exact step hv (by unfold Region.wanted; rw [hg])
  | some g =>
    obtain ⟨j, want⟩ := g
    rw [hg] at hv
    obtain ⟨c, hc, hw⟩ := wanted_of ha hg hv
    replace hc := hc.out.out
    unfold guardB at hc
    cases c <;> first
      | (simp only at hc hw; exact ⟨undef, hc, .inr ⟨hw, rfl⟩⟩)
      | (rename_i b
         simp only at hc hw
         by_cases hb : b = want
         · rw [if_pos hb] at hc; exact step hc (by rw [hw]; simpa using hb)
         · rw [if_neg hb] at hc; exact ⟨undef, hc, .inr ⟨by rw [hw]; simpa using hb, rfl⟩⟩)
end

def dstIn (ops : Array Oper) (ds : Nat → Prop) : Prop := ∀ (i : Nat) (o : Oper) (d : Nat), ops[i]? = some o → o.dst = some d → ds d

/-- The frame is as it was but for the temporaries 'ds'. -/
def Fr (ds : Nat → Prop) (a a' : Act) : Prop := ∀ t, ¬ ds t → a'.tmps[t]? = a.tmps[t]?
theorem Fr.refl (ds : Nat → Prop) (a : Act) : Fr ds a a := fun _ _ => rfl
theorem Fr.trans {ds : Nat → Prop} {a b c : Act} (h : Fr ds a b) (k : Fr ds b c) : Fr ds a c := fun t ht => (k t ht).trans (h t ht)
theorem Fr.put {ds : Nat → Prop} (a : Act) {dst : Option Nat} (h : ∀ d, dst = some d → ds d) (v : Value) : Fr ds a (a.put dst v) := by
  intro t ht
  cases dst with
  | none => rfl
  | some d =>
    simp only [Act.put, Array.getElem?_setIfInBounds]
    rw [if_neg (show ¬ d = t from fun e => ht (e ▸ h d rfl))]

/-- What holds at the end of a region, of a piece of code. -/
structure After (n : Nat) (ds : Nat → Prop) (K : Env → Heap → Prop) (a₀ : Act) (w₀ : World) (a : Act) (w : World) : Prop where
  same : Same w₀ w
  fr : Fr ds a₀ a
  env : ∃ ρ, St n ρ a ∧ K ρ w.heap

theorem vcOps_wpOps {P : Program} {ops : Array Oper} {n : Nat} {ds : Nat → Prop} (hds : dstIn ops ds) {Q : Exit → Act → World → Prop} {K : Env → Heap → Prop} {a₀ : Act} {w₀ : World} (hQ : ∀ a w, After n ds K a₀ w₀ a w → Q .normal a w) :
    ∀ (l : List Nat) (ρ : Env) (a : Act) (w : World), St n ρ a → Same w₀ w → Fr ds a₀ a → vcOps P ops.toList none n l ρ K w.heap → wpOps P ops Q l a w
  | [], ρ, a, w, hs, hw, hf, h => hQ a w ⟨hw, hf, ρ, hs, h⟩
  | i :: rest, ρ, a, w, hs, hw, hf, h => by
    rw [wpOps_cons]
    unfold vcOps at h
    have e : ops.toList[i]? = ops[i]? := by simp
    rw [e] at h
    cases ho : ops[i]? with
    | none => rw [ho] at h; exact h.elim
    | some o =>
      rw [ho] at h
      refine vcStep_wp hs.toAgree ho h fun v w' hsame hk => ?_
      obtain ⟨ρ', hs', hk'⟩ := putE_St hs hk
      exact vcOps_wpOps hds hQ rest ρ' _ w' hs' (hw.trans hsame) (hf.trans (Fr.put a (fun d hd => hds i o d ho hd) v)) hk'

/-! ### A drawn order -/

def afterIn (o : Oper) (m : Nat) : Bool := o.after.toList.all fun e => !Region.binds .any e || m.testBit e.on

def cloGo (r : Nat) : List Oper → Nat → Nat → Nat
  | [], _, m => m
  | o :: os, j, m => cloGo r os (j + 1) (bif Nat.beq j r || !afterIn o m then m else m ||| 2 ^ j)

/-- The operations that can come up without number r. -/
def clo (ops : List Oper) (r : Nat) : Nat := cloGo r ops 0 0

def closedGo (r m : Nat) : List Oper → Nat → Bool
  | [], _ => true
  | o :: os, j => (Nat.beq j r || !afterIn o m || m.testBit j) && closedGo r m os (j + 1)

def closedAll (ops : List Oper) : Bool := (List.range ops.length).all fun r => closedGo r (clo ops r) ops 0

def flag (P : Program) (ops : List Oper) (j : Nat) : Bool :=
  (List.range ops.length).any fun r => !Nat.beq r j && (match ops[r]? with | some o => isReader P o.op | none => false) && (clo ops r).testBit j && (clo ops j).testBit r

def eagerGo (P : Program) (ops : Array Oper) : Nat → Array Bool → Option (List Nat)
  | 0, listed => match Region.ready .any ops listed with
    | [] => some []
    | _ => none
  | n + 1, listed => match Region.ready .any ops listed with
    | [] => some []
    | r => match r.find? (fun i => (match ops[i]? with | some o => isReader P o.op | none => false) && Region.free .any ops listed i) with
      | some i => match eagerGo P ops n (listed.setIfInBounds i true) with
        | some l => some (i :: l)
        | none => none
      | none => match r with
        | [i] => match ops[i]? with
          | some o => bif isReader P o.op then none else match eagerGo P ops n (listed.setIfInBounds i true) with
            | some l => some (i :: l)
            | none => none
          | none => none
        | _ => none

def eager (P : Program) (ops : Array Oper) : Option (List Nat) :=
  bif closedAll ops.toList && Region.noSelect ops then eagerGo P ops ops.size (Array.replicate ops.size false) else none

section
variable {P : Program} {ops : Array Oper}

theorem closedGo_spec {r m : Nat} : ∀ (os : List Oper) (k : Nat), closedGo r m os k = true → ∀ j o, os[j]? = some o → k + j ≠ r → afterIn o m = true → m.testBit (k + j) = true
  | [], _, _, j, o, ho, _, _ => by cases ho
  | x :: os, k, h, j, o, ho, hne, ha => by
    simp only [closedGo, Bool.and_eq_true] at h
    cases j with
    | zero =>
      simp only [List.getElem?_cons_zero, Option.some.injEq] at ho
      subst ho
      have h1 := h.1
      have hb : Nat.beq k r = false := Bool.eq_false_iff.2 fun e => hne (by simpa using Nat.eq_of_beq_eq_true e)
      simp only [hb, ha, Bool.not_true, Bool.or_false, Bool.false_or] at h1
      simpa using h1
    | succ j =>
      have := closedGo_spec os (k + 1) h.2 j o (by simpa using ho) (by omega) ha
      rwa [show k + 1 + j = k + (j + 1) by omega] at this

/-- 'listed' has come up without r. -/
def Inv (ops : Array Oper) (listed : Array Bool) : Prop := ∀ r, listed.getD r true = false → ∀ j, listed.getD j false = true → (clo ops.toList r).testBit j = true

theorem in_clo (hc : closedAll ops.toList = true) {listed : Array Bool} (hl : listed.size = ops.size) (hinv : Inv ops listed) {j r : Nat} (hj : j ∈ Region.ready .any ops listed) (hr : listed.getD r true = false) (hne : j ≠ r) : (clo ops.toList r).testBit j = true := by
  obtain ⟨_, o, ho, hall⟩ := mem_ready.1 hj
  have hrn : r < ops.size := by
    rcases Nat.lt_or_ge r listed.size with h | h
    · omega
    · simp [Array.getElem?_eq_none h] at hr
  have h1 : closedGo r (clo ops.toList r) ops.toList 0 = true := by
    simp only [closedAll, List.all_eq_true, List.mem_range] at hc
    exact hc r (by simpa using hrn)
  have h2 := closedGo_spec ops.toList 0 h1 j o (by simpa using ho) (by omega) (by
    simp only [afterIn, List.all_eq_true, Bool.or_eq_true, Bool.not_eq_true']
    intro e he
    by_cases hb : Region.binds .any e = true
    · exact .inr (hinv r hr _ (hall e (by simpa using he) hb))
    · exact .inl (by simpa using hb))
  simpa using h2

theorem Inv.step (hc : closedAll ops.toList = true) {listed : Array Bool} (hl : listed.size = ops.size) (hinv : Inv ops listed) {i : Nat} (hi : i ∈ Region.ready .any ops listed) : Inv ops (listed.setIfInBounds i true) := by
  intro r hr j hj
  have hri : r ≠ i := fun e => by
    subst e
    have : (listed.setIfInBounds r true).getD r true = true := by
      by_cases h : r < listed.size <;> simp [h]
    rw [this] at hr; cases hr
  have hr' : listed.getD r true = false := by rw [getD_set_ne true (Ne.symm hri)] at hr; exact hr
  by_cases hji : j = i
  · subst hji; exact in_clo hc hl hinv hi hr' (Ne.symm hri)
  · rw [getD_set_ne false (Ne.symm hji)] at hj
    exact hinv r hr' j hj

/-- Whatever order is picked, flagged operations only add blocks. -/
def wpAnyE (P : Program) (ops : Array Oper) (Q : Exit → Act → World → Prop) (fl : Nat → Bool) : Nat → Array Bool → Act → World → Prop
  | 0, listed, a, w => Region.ready .any ops listed = [] ∧ Q .normal a w
  | fuel + 1, listed, a, w =>
    (Region.ready .any ops listed = [] → Q .normal a w) ∧
    ∀ i ∈ Region.ready .any ops listed, wpOp P ops Q i (fun a' w' => (fl i = true → Ext w.heap w'.heap) ∧ wpAnyE P ops Q fl fuel (listed.setIfInBounds i true) a' w') a w

theorem wpAny_of_E {Q : Exit → Act → World → Prop} {fl : Nat → Bool} : ∀ (fuel : Nat) (listed : Array Bool) (a : Act) (w : World), wpAnyE P ops Q fl fuel listed a w → wpAny P .any ops Q fuel listed a w
  | 0, _, _, _, h => h
  | fuel + 1, _, _, _, h => ⟨h.1, fun i hi => wpOp_mono (fun a' w' h' => wpAny_of_E fuel _ a' w' h'.2) (h.2 i hi)⟩

theorem wpAnyE_first {Q : Exit → Act → World → Prop} {fl : Nat → Bool} {i : Nat} {oi : Oper} {v : Value} {h₀ : Heap} (hi : ops[i]? = some oi) (hsel : ∀ (j : Nat) (o : Oper) cs b, ops[j]? = some o → o.op ≠ .select cs b)
    (hQ : ∀ c a w, Q (.panic c) (a.put oi.dst v) w → Q (.panic c) a w) :
    ∀ (fuel : Nat) (listed : Array Bool) (a : Act) (w : World), listed.size = ops.size →
      (∀ listed', listed'.size = ops.size → Inv ops listed' → i ∈ Region.ready .any ops listed' → ∀ j ∈ Region.ready .any ops listed', j ≠ i → fl j = true) → closedAll ops.toList = true → Inv ops listed →
      (∀ j oj, ops[j]? = some oj → j ≠ i → listed.getD j true = false → (∀ e ∈ oj.after, Region.binds .any e = true → e.on ≠ i) → oi.apart ops oj = true) →
      i ∈ Region.ready .any ops listed → YieldsIf P ops (fun w => Ext h₀ w.heap) oi v a → Ext h₀ w.heap →
      wpAnyE P ops Q fl fuel (listed.setIfInBounds i true) (a.put oi.dst v) w → wpAnyE P ops Q fl (fuel + 1) listed a w := by
  intro fuel
  induction fuel with
  | zero =>
    intro listed a w _ _ _ _ _ hr hy hS H
    refine ⟨fun h => (by rw [h] at hr; cases hr), fun j hj => ?_⟩
    by_cases hji : j = i
    · subst hji; exact hy.wpOp hi hS ⟨fun _ => .refl _, H⟩
    · have := ready_mono hj hji
      rw [H.1] at this
      cases this
  | succ fuel ih =>
    intro listed a w hl hfl hc hinv hfree hr hy hS H
    refine ⟨fun h => (by rw [h] at hr; cases hr), fun j hj => ?_⟩
    by_cases hji : j = i
    · subst hji; exact hy.wpOp hi hS ⟨fun _ => .refl _, H⟩
    · have h1 := H.2 j (ready_mono hj hji)
      have hflj := hfl listed hl hinv hr j hj hji
      obtain ⟨hjun, oj, hoj, hall⟩ := mem_ready.1 hj
      have hnot : ∀ e ∈ oj.after, Region.binds .any e = true → e.on ≠ i := fun e he hb heq => by
        have h1 := hall e he hb
        have h0 := (mem_ready.1 hr).1
        rw [heq] at h1
        rcases Nat.lt_or_ge i listed.size with h' | h'
        · simp [h'] at h0 h1; rw [h0] at h1; cases h1
        · simp [Array.getElem?_eq_none h'] at h1
      have h2 := wpOp_putIf hoj (hfree j oj hoj hji hjun hnot) (fun cs b => hsel i oi cs b hi) (fun cs b => hsel j oj cs b hoj) hQ hy h1
      have hfree' : ∀ k ok, ops[k]? = some ok → k ≠ i → (listed.setIfInBounds j true).getD k true = false →
          (∀ e ∈ ok.after, Region.binds .any e = true → e.on ≠ i) → oi.apart ops ok = true := fun k ok hk hki hun hno => by
        refine hfree k ok hk hki ?_ hno
        by_cases hjk : j = k
        · subst hjk; exact hjun
        · rw [getD_set_ne true hjk] at hun; exact hun
      refine wpOp_mono (fun a' w' h3 => ?_) h2
      refine ⟨fun _ => h3.2.1 hflj, ih (listed.setIfInBounds j true) a' w' (by simpa using hl) hfl hc (hinv.step hc hl hj) hfree' (ready_mono hr (Ne.symm hji)) h3.1 (hS.trans (h3.2.1 hflj)) ?_⟩
      rw [Array.setIfInBounds_comm _ _ hji]
      exact h3.2.2

theorem flag_of (hc : closedAll ops.toList = true) {i : Nat} {oi : Oper} (hi : ops[i]? = some oi) (hr : isReader P oi.op = true) :
    ∀ listed', listed'.size = ops.size → Inv ops listed' → i ∈ Region.ready .any ops listed' → ∀ j ∈ Region.ready .any ops listed', j ≠ i → flag P ops.toList j = true := by
  intro listed hl hinv hi' j hj hne
  have h1 := in_clo hc hl hinv hj (mem_ready.1 hi').1 hne
  have h2 := in_clo hc hl hinv hi' (mem_ready.1 hj).1 (Ne.symm hne)
  unfold flag
  simp only [List.any_eq_true, List.mem_range]
  refine ⟨i, by simpa using (Array.getElem?_eq_some_iff.1 hi).1, ?_⟩
  have hb : Nat.beq i j = false := Bool.eq_false_iff.2 fun e => hne (Nat.eq_of_beq_eq_true e).symm
  have e : ops.toList[i]? = some oi := by simpa using hi
  rw [hb, e]
  simp only [hr, h1, h2]; rfl

/-- No way out by panic. -/
theorem vcOps_eager {n : Nat} {ds : Nat → Prop} (hds : dstIn ops ds) {Q : Exit → Act → World → Prop} {K : Env → Heap → Prop} {a₀ : Act} {w₀ : World} (hQ : ∀ a w, After n ds K a₀ w₀ a w → Q .normal a w)
    (hQp : ∀ c a a' w, Q (.panic c) a w → Q (.panic c) a' w)
    (hc : closedAll ops.toList = true) (hsel : ∀ (j : Nat) (o : Oper) cs b, ops[j]? = some o → o.op ≠ .select cs b) :
    ∀ (fuel : Nat) (listed : Array Bool) (l : List Nat), eagerGo P ops fuel listed = some l → listed.size = ops.size → Inv ops listed →
      ∀ (ρ : Env) (a : Act) (w : World), St n ρ a → Same w₀ w → Fr ds a₀ a → vcOps P ops.toList (some (flag P ops.toList)) n l ρ K w.heap → wpAnyE P ops Q (flag P ops.toList) fuel listed a w := by
  intro fuel
  induction fuel with
  | zero =>
    intro listed l he _ _ ρ a w hs hw hf h
    unfold eagerGo at he
    split at he
    · rename_i hr
      cases he
      exact ⟨hr, hQ a w ⟨hw, hf, ρ, hs, h⟩⟩
    · cases he
  | succ fuel ih =>
    intro listed l he hl hinv ρ a w hs hw hf h
    unfold eagerGo at he
    split at he
    · rename_i hr
      cases he
      exact ⟨fun _ => hQ a w ⟨hw, hf, ρ, hs, h⟩, fun i hi => by rw [hr] at hi; cases hi⟩
    · split at he
      · rename_i i hfind
        have hp := List.find?_some hfind
        have hmem := List.mem_of_find?_eq_some hfind
        simp only [Bool.and_eq_true] at hp
        obtain ⟨hp1, hp2⟩ := hp
        obtain ⟨_, o, ho, _⟩ := mem_ready.1 hmem
        rw [ho] at hp1
        simp only at hp1
        split at he
        · rename_i l' hl'
          cases he
          unfold vcOps at h
          have e : ops.toList[i]? = some o := by simpa using ho
          rw [e] at h
          obtain ⟨v, hk, hy⟩ := vcStep_reader hs.toAgree hp1 h
          obtain ⟨ρ', hs', hk'⟩ := putE_St hs hk
          refine wpAnyE_first ho hsel (fun c a w => hQp c _ _ w) fuel listed a w hl (flag_of hc ho hp1) hc hinv (Region.free_spec ho hp2) hmem hy (.refl _) ?_
          exact ih _ l' hl' (by simpa using hl) (hinv.step hc hl hmem) ρ' _ w hs' hw (hf.trans (Fr.put a (fun d hd => hds i o d ho hd) v)) hk'
        · cases he
      · split at he
        · rename_i i hr1
          have hmem : i ∈ Region.ready .any ops listed := by rw [hr1]; simp
          obtain ⟨_, o, ho, _⟩ := mem_ready.1 hmem
          rw [ho] at he
          simp only at he
          cases hrd : isReader P o.op with
          | true => rw [hrd] at he; cases he
          | false =>
            rw [hrd] at he
            simp only [cond_false] at he
            split at he
            · rename_i l' hl'
              cases he
              unfold vcOps at h
              have e : ops.toList[i]? = some o := by simpa using ho
              rw [e] at h
              refine ⟨fun hh => (by rw [hr1] at hh; cases hh), fun j hj => ?_⟩
              rw [hr1] at hj
              obtain rfl : j = i := by simpa using hj
              refine vcStep_writer hs.toAgree ho hrd h fun v w' hsame hext hk => ?_
              obtain ⟨ρ', hs', hk'⟩ := putE_St hs hk
              exact ⟨hext, ih _ l' hl' (by simpa using hl) (hinv.step hc hl hmem) ρ' _ w' hs' (hw.trans hsame) (hf.trans (Fr.put a (fun d hd => hds j o d ho hd) v)) hk'⟩
            · cases he
        · cases he
end

/-- A region of code. -/
def vcRegion (P : Program) (n : Nat) (ops : Array Oper) (draw : Bool) (ρ : Env) (K : Env → Heap → Prop) (h : Heap) : Prop :=
  bif draw then
    match eager P ops with
    | some l => vcOps P ops.toList (some (flag P ops.toList)) n l ρ K h
    | none => False
  else vcOps P ops.toList none n (List.range ops.toList.length) ρ K h

theorem vcRegion_wp {P : Program} (hm : P.follows .mixedOrders = true) {n id : Nat} {ops : Array Oper} {draw : Bool} {ds : Nat → Prop} (hds : dstIn ops ds) {Q : Exit → Act → World → Prop} {K : Env → Heap → Prop} {ρ : Env} {a : Act} {w : World}
    (hQ : ∀ a' w', After n ds K a w a' w' → Q .normal a' w') (hQp : ∀ c a a' w, Q (.panic c) a w → Q (.panic c) a' w) (hs : St n ρ a) (h : vcRegion P n ops draw ρ K w.heap) : (Code.region id ops draw).wp P Q a w := by
  unfold vcRegion at h
  cases draw with
  | false =>
    simp only [cond_false] at h
    exact wp_region (vcOps_wpOps hds hQ _ ρ a w hs (.refl _) (.refl _ _) (by simpa using h))
  | true =>
    simp only [cond_true] at h
    split at h
    · rename_i l hl
      unfold eager at hl
      cases hb : (closedAll ops.toList && Region.noSelect ops) with
      | false => rw [hb] at hl; cases hl
      | true =>
        rw [hb] at hl
        simp only [cond_true] at hl
        simp only [Bool.and_eq_true] at hb
        refine wp_region_any hm (wpAny_of_E (fl := flag P ops.toList) _ _ _ _ ?_)
        refine vcOps_eager hds (w₀ := w) (a₀ := a) hQ hQp hb.1 (Region.noSelect_spec hb.2) _ _ l hl (by simp) ?_ ρ a { w with drawn := w.drawn + 1 } hs ⟨rfl, rfl, rfl⟩ (.refl _ _) h
        intro r _ j hj
        exfalso
        by_cases hlt : j < ops.size <;> simp [hlt] at hj
    · exact h.elim

end Go.Vc
