/- Locks: what holds of those that hold, wait, and came to hold; no program in sight. -/
import Derived.Test.YtlligpgjkmfhpaaLock14
set_option linter.unusedSimpArgs false
set_option linter.unusedVariables false
namespace Go.Proofs.Ytlligpgjkmfhpaa
open Go.Vc

theorem agst_comm (x y : Rq) : agst x y = agst y x := by
  unfold agst
  rw [Bool.or_comm]
  congr 1
  apply decide_eq_decide.2
  constructor <;> intro hh <;> (repeat' split at hh) <;> (repeat' split) <;> omega

/-- What going on brings about. -/
structure GoP (H L J W1 : List Rb) (out : List Int) : Prop where
  out : out = J.map (·.key)
  sub : J.Sublist L
  perm : (J ++ W1).Perm L
  over : ∀ x ∈ W1, ∀ y ∈ J, x.r.tk < y.r.tk → agst y.r x.r = false
  why : ∀ x ∈ W1, (∃ y ∈ H ++ J, agst x.r y.r = true) ∨ ∃ y ∈ W1, y.r.tk < x.r.tk ∧ agst x.r y.r = true
  apart : (∀ x ∈ H, ∀ y ∈ H, x ≠ y → agst x.r y.r = false) → ∀ x ∈ H ++ J, ∀ y ∈ H ++ J, x ≠ y → agst x.r y.r = false
theorem goF_spec (H L : List Rb) (hs : L.Pairwise (fun x y => x.r.tk < y.r.tk)) : ∃ J, (goF H L).1 = H ++ J ∧ GoP H L J (goF H L).2.1 (goF H L).2.2 := by
  revert hs
  refine snocRec (motive := fun L => L.Pairwise (fun x y => x.r.tk < y.r.tk) → ∃ J, (goF H L).1 = H ++ J ∧ GoP H L J (goF H L).2.1 (goF H L).2.2) ?_ ?_ L
  · intro _
    exact ⟨[], by simp [goF], by simp [goF], .refl _, by simp [goF], by simp, by simp [goF], by simp⟩
  · intro L z ih hs
    obtain ⟨h1, -, h2⟩ := List.pairwise_append.1 hs
    have hz : ∀ y ∈ L, y.r.tk < z.r.tk := fun y hy => h2 y hy z (by simp)
    obtain ⟨J, e1, P⟩ := ih h1
    have hW : ∀ x ∈ (goF H L).2.1, x ∈ L := fun x hx => (goF_sub H L).subset hx
    rw [goF_snoc]
    unfold goStep
    rw [e1]
    generalize (goF H L).2.1 = W1 at *
    generalize (goF H L).2.2 = out at *
    split
    · rename_i hany
      refine ⟨J, rfl, P.out, P.sub.trans (List.sublist_append_left _ _), ?_, ?_, ?_, P.apart⟩
      · show (J ++ (W1 ++ [z])).Perm _
        rw [← List.append_assoc]
        exact P.perm.append_right _
      · intro x hx y hy hlt
        rcases List.mem_append.1 hx with e | e
        · exact P.over x e y hy hlt
        · simp at e; subst e
          have := hz y (P.sub.subset hy)
          omega
      · intro x hx
        rcases List.mem_append.1 hx with e | e
        · rcases P.why x e with a | ⟨y, hy, a⟩
          · exact .inl a
          · exact .inr ⟨y, List.mem_append_left _ hy, a⟩
        · simp at e; subst e
          rcases Bool.or_eq_true _ _ ▸ hany with a | a
          · obtain ⟨y, hy, b⟩ := List.any_eq_true.1 a
            exact .inl ⟨y, hy, b⟩
          · obtain ⟨y, hy, b⟩ := List.any_eq_true.1 a
            exact .inr ⟨y, List.mem_append_left _ hy, hz y (hW y hy), b⟩
    · rename_i hany
      simp only [Bool.or_eq_true, not_or, Bool.not_eq_true] at hany
      obtain ⟨n1, n2⟩ := hany
      have n1' : ∀ y ∈ H ++ J, agst z.r y.r = false := fun y hy => by have := List.any_eq_false.1 n1 y hy; simpa using this
      have n2' : ∀ y ∈ W1, agst z.r y.r = false := fun y hy => by have := List.any_eq_false.1 n2 y hy; simpa using this
      refine ⟨J ++ [z], by simp, ?_, ?_, ?_, ?_, ?_, ?_⟩
      · show out ++ [z.key] = _
        rw [P.out]; simp
      · exact P.sub.append (.refl _)
      · refine List.Perm.trans ?_ (P.perm.append_right [z])
        show (J ++ [z] ++ W1).Perm _
        rw [List.append_assoc, List.append_assoc]
        exact List.Perm.append_left _ List.perm_append_comm
      · intro x hx y hy hlt
        rcases List.mem_append.1 hy with e | e
        · exact P.over x hx y e hlt
        · simp at e; subst e
          exact n2' x hx
      · intro x hx
        rcases P.why x hx with ⟨y, hy, a⟩ | a
        · exact .inl ⟨y, by rw [← List.append_assoc]; exact List.mem_append_left _ hy, a⟩
        · exact .inr a
      · intro hap x hx y hy hne
        rw [← List.append_assoc] at hx hy
        rcases List.mem_append.1 hx with e | e
        · rcases List.mem_append.1 hy with f | f
          · exact P.apart hap x e y f hne
          · simp at f; subst f
            rw [agst_comm]; exact n1' x e
        · simp at e; subst e
          rcases List.mem_append.1 hy with f | f
          · exact n1' y f
          · simp at f; exact absurd f.symm hne

def agstK (some : List Lx) (a b : Int) : Bool :=
  match some[a.toNat]?, some[b.toNat]? with
  | Option.some x, Option.some y => agst (x.rq 0) (y.rq 0)
  | _, _ => false
theorem agstK_app {some : List Lx} {z : Lx} {a b : Int} (ha : 0 ≤ a ∧ a < some.length) (hb : 0 ≤ b ∧ b < some.length) : agstK (some ++ [z]) a b = agstK some a b := by
  unfold agstK
  rw [List.getElem?_append_left (by omega), List.getElem?_append_left (by omega)]
theorem RecS.agstK {some : List Lx} {s : Lk} (r : RecS some s) {x y : Rb} (hx : x ∈ s.all) (hy : y ∈ s.all) : agstK some x.key y.key = agst x.r y.r := by
  obtain ⟨i, hi, e1, e2, e3, e4⟩ := r.key x hx
  obtain ⟨j, hj, f1, f2, f3, f4⟩ := r.key y hy
  unfold Go.Proofs.Ytlligpgjkmfhpaa.agstK
  rw [e1, f1, Int.toNat_natCast, Int.toNat_natCast, List.getElem?_eq_getElem hi, List.getElem?_eq_getElem hj]
  unfold agst Lx.rq
  dsimp only
  rw [e2, e3, e4, f2, f3, f4]

def goneL (gl : List Bool) (k : Int) : Bool := (gl[k.toNat]?).getD false
structure InvL (some : List Lx) (s : Lk) (od : List Int) (gl : List Bool) : Prop where
  rec_ : RecS some s
  tk : ∀ x ∈ s.all, x.r.tk = x.key + 1
  keys : (s.all.map (·.key)).Nodup
  nd : od.Nodup
  rng : ∀ k : Int, k ∈ od → 0 ≤ k ∧ k < some.length
  live : ∀ k : Int, (k ∈ od ∧ goneL gl k = false) ↔ k ∈ s.H.map (·.key)
  wait : ∀ k : Int, 0 ≤ k → k < some.length → k ∈ od ∨ k ∈ s.W.map (·.key)
  waitn : ∀ x ∈ s.W, x.key ∉ od
  gone : ∀ k : Int, 0 ≤ k → goneL gl k = true → k ∈ od
  apart : ∀ x ∈ s.H, ∀ y ∈ s.H, x ≠ y → agst x.r y.r = false
  why : ∀ x ∈ s.W, (∃ y ∈ s.H, agst x.r y.r = true) ∨ ∃ y ∈ s.W, y.r.tk < x.r.tk ∧ agst x.r y.r = true
  inv : od.Pairwise (fun a b => b < a → agstK some a b = false)
  over : ∀ x ∈ s.W, ∀ k : Int, k ∈ od → x.key < k → agstK some k x.key = false

theorem InvL.ask {some : List Lx} {s : Lk} {od : List Int} {gl : List Bool} (I : InvL some s od gl) {b : Nat} {w' : Value} {a l : Int} {al : Bool} (hm : MayP some.length a l) :
    InvL (some ++ [⟨some.length, a, l, al⟩]) (if couldS s ⟨some.length, a, l, al, s.tk + 1⟩ then { s with H := s.H ++ [⟨some.length, b, ⟨some.length, a, l, al, s.tk + 1⟩⟩], tk := s.tk + 1 } else { s with W := s.W ++ [⟨some.length, b, ⟨some.length, a, l, al, s.tk + 1⟩⟩], w := w', tk := s.tk + 1 })
      (if couldS s ⟨some.length, a, l, al, s.tk + 1⟩ then od ++ [(some.length : Int)] else od) gl := by
  have hr := I.rec_.more (b := b) (w' := w') (al := al) hm
  have hfr := find_none I.rec_.fresh
  have htk := I.rec_.tk
  have hnod : (some.length : Int) ∉ od := fun e => by have := I.rng _ e; omega
  have hng : goneL gl some.length = false := by
    cases e : goneL gl some.length with
    | false => rfl
    | true => exact absurd (I.gone _ (by omega) e) hnod
  have kr : ∀ x ∈ s.all, 0 ≤ x.key ∧ x.key < some.length := fun x hx => by
    obtain ⟨k, hk, e, _⟩ := I.rec_.key x hx
    omega
  have rng' : ∀ k ∈ od, 0 ≤ k ∧ k < (some ++ [(⟨some.length, a, l, al⟩ : Lx)]).length := fun k hk => by have := I.rng k hk; simp; omega
  have inv' : od.Pairwise (fun a' b' => b' < a' → agstK (some ++ [⟨some.length, a, l, al⟩]) a' b' = false) := by
    refine List.Pairwise.imp_of_mem (fun ha hb h1 h2 => ?_) I.inv
    rw [agstK_app (I.rng _ ha) (I.rng _ hb)]
    exact h1 h2
  cases hc : couldS s ⟨some.length, a, l, al, s.tk + 1⟩ with
  | true =>
    rw [hc] at hr
    simp only [if_true] at hr ⊢
    have hc' := hc
    unfold couldS at hc'
    simp only [Bool.and_eq_true, Bool.not_eq_true'] at hc'
    have nH : ∀ y ∈ s.H, agst ⟨some.length, a, l, al, s.tk + 1⟩ y.r = false := fun y hy => by
      cases e : agst ⟨some.length, a, l, al, s.tk + 1⟩ y.r with
      | false => rfl
      | true =>
        have : (s.H.any fun y => agst ⟨some.length, a, l, al, s.tk + 1⟩ y.r) = true := List.any_eq_true.2 ⟨y, hy, e⟩
        simp_all
    have nW : ∀ y ∈ s.W, agst ⟨some.length, a, l, al, s.tk + 1⟩ y.r = false := fun y hy => by
      cases e : agst ⟨some.length, a, l, al, s.tk + 1⟩ y.r with
      | false => rfl
      | true =>
        have : (s.W.any fun y => agst ⟨some.length, a, l, al, s.tk + 1⟩ y.r) = true := List.any_eq_true.2 ⟨y, hy, e⟩
        simp_all
    have hp := perm_H (s := s) (x := ⟨some.length, b, ⟨some.length, a, l, al, s.tk + 1⟩⟩) (t := s.tk + 1)
    refine ⟨hr, fun x hx => ?_, ?_, ?_, fun k hk => ?_, fun k => ?_, fun k h0 h1 => ?_, fun x hx hk => ?_, fun k h0 hk => ?_, fun x hx y hy hne => ?_, fun x hx => ?_, ?_, fun x hx k hk hlt => ?_⟩
    · rcases List.mem_cons.1 (hp.mem_iff.1 hx) with e | e
      · subst e; show s.tk + 1 = (some.length : Int) + 1; omega
      · exact I.tk x e
    · rw [(hp.map _).nodup_iff, List.map_cons, List.nodup_cons]
      refine ⟨fun hm' => ?_, I.keys⟩
      obtain ⟨y, hy, e⟩ := List.mem_map.1 hm'
      exact hfr y hy e
    · rw [List.nodup_append]
      refine ⟨I.nd, by simp, fun x hx y hy e => ?_⟩
      simp at hy; subst hy; subst e; exact hnod hx
    · rcases List.mem_append.1 hk with e | e
      · exact rng' k e
      · simp at e; subst e; simp; omega
    · rw [List.map_append, List.mem_append, List.mem_append, ← I.live k]
      constructor
      · rintro ⟨e | e, hg⟩
        · exact .inl ⟨e, hg⟩
        · simp at e; exact .inr (by simp [e])
      · rintro (⟨e, hg⟩ | e)
        · exact ⟨.inl e, hg⟩
        · simp at e; subst e; exact ⟨.inr (by simp), hng⟩
    · simp at h1
      by_cases e : k = some.length
      · exact .inl (List.mem_append_right _ (by simp [e]))
      · rcases I.wait k h0 (by omega) with f | f
        · exact .inl (List.mem_append_left _ f)
        · exact .inr f
    · rcases List.mem_append.1 hk with e | e
      · exact I.waitn x hx e
      · simp at e; exact hfr x (List.mem_append_right _ hx) e
    · exact List.mem_append_left _ (I.gone k h0 hk)
    · rcases List.mem_append.1 hx with e | e
      · rcases List.mem_append.1 hy with f | f
        · exact I.apart x e y f hne
        · simp at f; subst f; rw [agst_comm]; exact nH x e
      · simp at e; subst e
        rcases List.mem_append.1 hy with f | f
        · exact nH y f
        · simp at f; exact absurd f.symm hne
    · rcases I.why x hx with ⟨y, hy, e⟩ | e
      · exact .inl ⟨y, List.mem_append_left _ hy, e⟩
      · exact .inr e
    · rw [List.pairwise_append]
      refine ⟨inv', by simp, fun x hx y hy hlt => ?_⟩
      simp at hy; subst hy
      have := I.rng x hx
      omega
    · have hkx := kr x (List.mem_append_right _ hx)
      rcases List.mem_append.1 hk with e | e
      · rw [agstK_app (I.rng k e) hkx]; exact I.over x hx k e hlt
      · simp at e; subst e
        have h1 := hr.agstK (x := ⟨some.length, b, ⟨some.length, a, l, al, s.tk + 1⟩⟩) (y := x) (hp.mem_iff.2 List.mem_cons_self) (hp.mem_iff.2 (List.mem_cons_of_mem _ (List.mem_append_right _ hx)))
        exact h1.trans (nW x hx)
  | false =>
    rw [hc] at hr
    simp only [Bool.false_eq_true, if_false] at hr ⊢
    have hc' : (∃ y ∈ s.H, agst ⟨some.length, a, l, al, s.tk + 1⟩ y.r = true) ∨ ∃ y ∈ s.W, agst ⟨some.length, a, l, al, s.tk + 1⟩ y.r = true := by
      unfold couldS at hc
      cases h1 : s.H.any fun y => agst ⟨some.length, a, l, al, s.tk + 1⟩ y.r with
      | true => exact .inl (List.any_eq_true.1 h1)
      | false =>
        cases h2 : s.W.any fun y => agst ⟨some.length, a, l, al, s.tk + 1⟩ y.r with
        | true => exact .inr (List.any_eq_true.1 h2)
        | false => rw [h1, h2] at hc; cases hc
    have hp := perm_W (s := s) (x := ⟨some.length, b, ⟨some.length, a, l, al, s.tk + 1⟩⟩) (w := w') (t := s.tk + 1)
    refine ⟨hr, fun x hx => ?_, ?_, I.nd, rng', I.live, fun k h0 h1 => ?_, fun x hx hk => ?_, I.gone, I.apart, fun x hx => ?_, inv', fun x hx k hk hlt => ?_⟩
    · rcases List.mem_cons.1 (hp.mem_iff.1 hx) with e | e
      · subst e; show s.tk + 1 = (some.length : Int) + 1; omega
      · exact I.tk x e
    · rw [(hp.map _).nodup_iff, List.map_cons, List.nodup_cons]
      refine ⟨fun hm' => ?_, I.keys⟩
      obtain ⟨y, hy, e⟩ := List.mem_map.1 hm'
      exact hfr y hy e
    · simp at h1
      rw [List.map_append, List.mem_append]
      by_cases e : k = some.length
      · exact .inr (.inr (by simp [e]))
      · rcases I.wait k h0 (by omega) with f | f
        · exact .inl f
        · exact .inr (.inl f)
    · rcases List.mem_append.1 hx with e | e
      · exact I.waitn x e hk
      · simp at e; subst e; exact hnod hk
    · rcases List.mem_append.1 hx with e | e
      · rcases I.why x e with f | ⟨y, hy, f⟩
        · exact .inl f
        · exact .inr ⟨y, List.mem_append_left _ hy, f⟩
      · simp at e; subst e
        rcases hc' with f | ⟨y, hy, f⟩
        · exact .inl f
        · refine .inr ⟨y, List.mem_append_left _ hy, ?_, f⟩
          have h1 := I.tk y (List.mem_append_right _ hy)
          have h2 := kr y (List.mem_append_right _ hy)
          show y.r.tk < s.tk + 1
          omega
    · rcases List.mem_append.1 hx with e | e
      · rw [agstK_app (I.rng k hk) (kr x (List.mem_append_right _ e))]; exact I.over x e k hk hlt
      · simp at e; subst e
        have := I.rng k hk
        dsimp only at hlt
        omega

theorem goneL_set {gl : List Bool} {n k : Int} (hn : 0 ≤ n ∧ n < gl.length) (hk : 0 ≤ k) : goneL (gl.set n.toNat true) k = if k = n then true else goneL gl k := by
  unfold goneL
  rw [List.getElem?_set]
  by_cases e : k = n
  · subst e
    rw [if_pos rfl, if_pos rfl, if_pos (by omega)]; rfl
  · rw [if_neg (by omega), if_neg e]

theorem filter_len {α : Type} (f : α → Bool) : ∀ l : List α, (l.filter f).length + (l.filter fun x => !f x).length = l.length
  | [] => rfl
  | x :: l => by
    have := filter_len f l
    rw [List.filter_cons, List.filter_cons]
    cases f x <;> simp <;> omega
theorem InvL.done {some : List Lx} {s : Lk} {od : List Int} {gl : List Bool} (I : InvL some s od gl) {n : Int} {L : List Rb} {lv : Value} (hn : n ∈ s.H.map (·.key)) (hg : n < gl.length)
    (hL : L.Perm s.W) (hS : L.Pairwise (fun x y => x.r.tk ≤ y.r.tk)) :
    InvL some { s with H := (goF (goneS s n).H L).1, W := (goF (goneS s n).H L).2.1, w := lv } (od ++ (goF (goneS s n).H L).2.2) (gl.set n.toNat true) ∧
      (goF (goneS s n).H L).1.length + (goF (goneS s n).H L).2.1.length + 1 = s.all.length := by
  have hkW : (L.map (·.key)).Nodup := by
    have := I.keys
    unfold Lk.all at this
    rw [List.map_append, List.nodup_append] at this
    exact (hL.map _).nodup_iff.2 this.2.1
  have hkH : (s.H.map (·.key)).Nodup := by
    have := I.keys
    unfold Lk.all at this
    rw [List.map_append, List.nodup_append] at this
    exact this.1
  have hS' : L.Pairwise (fun x y => x.r.tk < y.r.tk) := by
    have h2 : L.Pairwise (fun x y => x.key ≠ y.key) := List.pairwise_map.1 hkW
    refine List.Pairwise.imp_of_mem (fun {x y} hx hy h => ?_) (hS.and h2)
    have h3 := I.tk x (List.mem_append_right _ (hL.mem_iff.1 hx))
    have h4 := I.tk y (List.mem_append_right _ (hL.mem_iff.1 hy))
    have := h.1
    have := h.2
    omega
  obtain ⟨J, e1, P⟩ := goF_spec (goneS s n).H L hS'
  rw [e1]
  generalize (goF (goneS s n).H L).2.1 = W1 at *
  generalize (goF (goneS s n).H L).2.2 = out at *
  have hH' : (goneS s n).H = s.H.filter fun x => !decide (x.key = n) := rfl
  rw [hH'] at P ⊢
  have Jall : ∀ x ∈ J, x ∈ s.W := fun x hx => hL.mem_iff.1 (P.sub.subset hx)
  have W1all : ∀ x ∈ W1, x ∈ s.W := fun x hx => hL.mem_iff.1 (P.perm.mem_iff.1 (List.mem_append_right _ hx))
  have split : ∀ x ∈ s.W, x ∈ J ∨ x ∈ W1 := fun x hx => List.mem_append.1 (P.perm.mem_iff.2 (hL.mem_iff.2 hx))
  have hn0 := ((I.live n).2 hn).1
  have hnr := I.rng n hn0
  have kr : ∀ x ∈ s.all, 0 ≤ x.key ∧ x.key < some.length := fun x hx => by
    obtain ⟨k, hk, e, _⟩ := I.rec_.key x hx
    omega
  have sub : ∀ x ∈ s.H.filter (fun x => !decide (x.key = n)) ++ J ++ W1, x ∈ s.all := fun x hx => by
    rcases List.mem_append.1 hx with e | e
    · rcases List.mem_append.1 e with e | e
      · exact List.mem_append_left _ (List.mem_filter.1 e).1
      · exact List.mem_append_right _ (Jall x e)
    · exact List.mem_append_right _ (W1all x e)
  have hperm : (s.H.filter (fun x => !decide (x.key = n)) ++ J ++ W1).Perm (s.H.filter (fun x => !decide (x.key = n)) ++ s.W) := by
    rw [List.append_assoc]
    exact (P.perm.trans hL).append_left _
  have hlen : (s.H.filter (fun x => !decide (x.key = n))).length + 1 = s.H.length := by
    obtain ⟨x, hx, hxk⟩ := List.mem_map.1 hn
    have h1 : (s.H.filter (fun x => decide (x.key = n))).length = 1 := by
      have h2 : (s.H.filter (fun x => decide (x.key = n))).map (·.key) = (s.H.map (·.key)).filter (fun k => decide (k = n)) := by
        rw [List.filter_map]; rfl
      have h3 := congrArg List.length h2
      rw [List.length_map] at h3
      rw [h3]
      have h4 := List.countP_eq_length_filter (p := fun k => decide (k = n)) (l := s.H.map (·.key))
      rw [← h4]
      have h5 := hkH.count (a := n)
      rw [if_pos hn] at h5
      rw [← h5, List.count]
      congr 1
    have := filter_len (fun x : Rb => decide (x.key = n)) s.H
    omega
  have hout : ∀ k, k ∈ out ↔ ∃ x ∈ J, x.key = k := fun k => by rw [P.out, List.mem_map]
  have houtW : ∀ k ∈ out, k ∉ od ∧ 0 ≤ k ∧ k < some.length := fun k hk => by
    obtain ⟨x, hx, rfl⟩ := (hout k).1 hk
    exact ⟨I.waitn x (Jall x hx), kr x (List.mem_append_right _ (Jall x hx))⟩
  have gset : ∀ k, 0 ≤ k → goneL (gl.set n.toNat true) k = if k = n then true else goneL gl k := fun k hk => goneL_set ⟨hnr.1, hg⟩ hk
  refine ⟨⟨⟨fun x hx => I.rec_.key x (sub x hx), I.rec_.ok, I.rec_.id, I.rec_.tk, ?_⟩, fun x hx => I.tk x (sub x hx), ?_, ?_, fun k hk => ?_, fun k => ?_, fun k h0 h1 => ?_, fun x hx hk => ?_, fun k h0 hk => ?_, ?_, P.why, ?_, fun x hx k hk hlt => ?_⟩, ?_⟩
  · have := I.rec_.len
    have h2 := hperm.length_eq
    unfold Lk.all at *
    dsimp only
    rw [h2]
    simp at this ⊢
    omega
  · unfold Lk.all
    dsimp only
    rw [(hperm.map _).nodup_iff]
    exact I.keys.sublist ((List.Sublist.append List.filter_sublist (.refl _)).map _)
  · rw [List.nodup_append]
    refine ⟨I.nd, ?_, fun x hx y hy e => (houtW y hy).1 (e ▸ hx)⟩
    rw [P.out]
    exact hkW.sublist (P.sub.map _)
  · rcases List.mem_append.1 hk with e | e
    · exact I.rng k e
    · exact (houtW k e).2
  · rw [List.map_append, List.mem_append, List.mem_append]
    constructor
    · rintro ⟨e | e, hgk⟩
      · have hk0 := (I.rng k e).1
        rw [gset k hk0] at hgk
        by_cases f : k = n
        · rw [if_pos f] at hgk; cases hgk
        · rw [if_neg f] at hgk
          obtain ⟨x, hx, hxk⟩ := List.mem_map.1 ((I.live k).1 ⟨e, hgk⟩)
          exact .inl (List.mem_map.2 ⟨x, List.mem_filter.2 ⟨hx, by simp [hxk, f]⟩, hxk⟩)
      · exact .inr (by rw [← P.out]; exact e)
    · rintro (e | e)
      · obtain ⟨x, hx, hxk⟩ := List.mem_map.1 e
        obtain ⟨hx1, hx2⟩ := List.mem_filter.1 hx
        have f : k ≠ n := by rw [← hxk]; simpa using hx2
        obtain ⟨g1, g2⟩ := (I.live k).2 (List.mem_map.2 ⟨x, hx1, hxk⟩)
        refine ⟨.inl g1, ?_⟩
        rw [gset k (I.rng k g1).1, if_neg f]; exact g2
      · rw [← P.out] at e
        refine ⟨.inr e, ?_⟩
        obtain ⟨g1, g2, g3⟩ := houtW k e
        rw [gset k g2, if_neg (fun f : k = n => g1 (f ▸ hn0))]
        cases hh : goneL gl k with
        | false => rfl
        | true => exact absurd (I.gone k g2 hh) g1
  · rcases I.wait k h0 h1 with e | e
    · exact .inl (List.mem_append_left _ e)
    · obtain ⟨x, hx, hxk⟩ := List.mem_map.1 e
      rcases split x hx with f | f
      · exact .inl (List.mem_append_right _ ((hout k).2 ⟨x, f, hxk⟩))
      · exact .inr (List.mem_map.2 ⟨x, f, hxk⟩)
  · rcases List.mem_append.1 hk with e | e
    · exact I.waitn x (W1all x hx) e
    · have hnd := (P.perm.map (·.key)).nodup_iff.2 hkW
      rw [List.map_append, List.nodup_append] at hnd
      rw [P.out] at e
      exact hnd.2.2 _ e _ (List.mem_map_of_mem hx) rfl
  · rw [gset k h0] at hk
    by_cases f : k = n
    · subst f; exact List.mem_append_left _ hn0
    · rw [if_neg f] at hk
      exact List.mem_append_left _ (I.gone k h0 hk)
  · exact P.apart fun x hx y hy hne => I.apart x (List.mem_filter.1 hx).1 y (List.mem_filter.1 hy).1 hne
  · rw [List.pairwise_append]
    refine ⟨I.inv, ?_, fun a ha c hc hlt => ?_⟩
    · rw [P.out, List.pairwise_map]
      refine List.Pairwise.imp_of_mem (fun {x y} hx hy hxy hlt => ?_) (hS'.sublist P.sub)
      have h3 := I.tk x (List.mem_append_right _ (Jall x hx))
      have h4 := I.tk y (List.mem_append_right _ (Jall y hy))
      omega
    · obtain ⟨x, hx, rfl⟩ := (hout c).1 hc
      exact I.over x (Jall x hx) a ha hlt
  · rcases List.mem_append.1 hk with e | e
    · exact I.over x (W1all x hx) k e hlt
    · obtain ⟨y, hy, rfl⟩ := (hout k).1 e
      rw [I.rec_.agstK (List.mem_append_right _ (Jall y hy)) (List.mem_append_right _ (W1all x hx))]
      refine P.over x hx y hy ?_
      have h3 := I.tk x (List.mem_append_right _ (W1all x hx))
      have h4 := I.tk y (List.mem_append_right _ (Jall y hy))
      omega
  · have h2 := hperm.length_eq
    unfold Lk.all
    simp only [List.length_append] at h2 ⊢
    omega

/-- If none holds then none waits. -/
theorem InvL.empty {some : List Lx} {s : Lk} {od : List Int} {gl : List Bool} (I : InvL some s od gl) (hH : s.H = []) : s.W = [] := by
  have key : ∀ n : Nat, ∀ x ∈ s.W, x.r.tk ≤ n → False := by
    intro n
    induction n with
    | zero =>
      intro x hx hle
      have h1 := I.tk x (List.mem_append_right _ hx)
      obtain ⟨k, hk, e, _⟩ := I.rec_.key x (List.mem_append_right _ hx)
      omega
    | succ n ih =>
      intro x hx hle
      rcases I.why x hx with ⟨y, hy, -⟩ | ⟨y, hy, hlt, -⟩
      · rw [hH] at hy; cases hy
      · exact ih y hy (by omega)
  rcases h : s.W with _ | ⟨x, l⟩
  · rfl
  · have hx : x ∈ s.W := by rw [h]; exact List.mem_cons_self
    exact absurd (key x.r.tk.toNat x hx (by omega)) (fun f => f)
/-- At the end all came to hold. -/
theorem InvL.all_od {some : List Lx} {s : Lk} {od : List Int} {gl : List Bool} (I : InvL some s od gl) (hW : s.W = []) : od.length = some.length := by
  have h1 : ∀ k ∈ od, k.toNat ∈ List.range some.length := fun k hk => by have := I.rng k hk; simp; omega
  have hnd : (od.map Int.toNat).Nodup := by
    refine List.pairwise_map.2 (List.Pairwise.imp_of_mem (fun {a b} ha hb hne e => hne ?_) I.nd)
    have := I.rng a ha
    have := I.rng b hb
    omega
  have hp : (od.map Int.toNat).Perm (List.range some.length) := by
    refine (List.perm_ext_iff_of_nodup hnd List.nodup_range).2 fun k => ?_
    rw [List.mem_map, List.mem_range]
    constructor
    · rintro ⟨x, hx, rfl⟩
      have := I.rng x hx
      omega
    · intro hk
      rcases I.wait k (by omega) (by omega) with e | e
      · exact ⟨k, e, by simp⟩
      · rw [hW] at e; cases e
  have := hp.length_eq
  simpa using this
end Go.Proofs.Ytlligpgjkmfhpaa
