/- Runs that wait, plainly: lists in order, none of which meet; the bytes that they cover. -/
import Derived.Test.YtgcllbelgakjgaaVcSec
set_option linter.unusedSimpArgs false
set_option linter.unusedVariables false
namespace Go.Vc

/-- A run. -/
structure Rn where
  at_ : Nat
  len : Nat
  deriving DecidableEq
def Rn.en (x : Rn) : Nat := x.at_ + x.len
/-- In order, none empty, none that meet. -/
def Can : List Rn → Prop
  | [] => True
  | x :: l => 0 < x.len ∧ (∀ y ∈ l, x.en < y.at_) ∧ Can l
/-- Is a byte in one of them? -/
def Cov (l : List Rn) (p : Nat) : Prop := ∃ x ∈ l, x.at_ ≤ p ∧ p < x.en
theorem Cov.cons {x : Rn} {l : List Rn} {p : Nat} : Cov (x :: l) p ↔ (x.at_ ≤ p ∧ p < x.en) ∨ Cov l p := by
  unfold Cov; simp
theorem Cov.nil {p : Nat} : ¬ Cov [] p := by unfold Cov; simp
theorem Cov.app {l m : List Rn} {p : Nat} : Cov (l ++ m) p ↔ Cov l p ∨ Cov m p := by
  unfold Cov
  constructor
  · rintro ⟨x, hx, h⟩
    rcases List.mem_append.1 hx with hx | hx
    · exact .inl ⟨x, hx, h⟩
    · exact .inr ⟨x, hx, h⟩
  · rintro (⟨x, hx, h⟩ | ⟨x, hx, h⟩)
    · exact ⟨x, by simp [hx], h⟩
    · exact ⟨x, by simp [hx], h⟩
theorem Can.pos : ∀ {l : List Rn}, Can l → ∀ x ∈ l, 0 < x.len
  | y :: l, h, x, hx => by
    rcases List.mem_cons.1 hx with rfl | hx
    · exact h.1
    · exact Can.pos h.2.2 x hx
/-- Behind a run that is first, nothing is covered up to one byte past it. -/
theorem Can.gap {x : Rn} {l : List Rn} (h : Can (x :: l)) {p : Nat} (hp : Cov l p) : x.en < p := by
  obtain ⟨y, hy, h1, h2⟩ := hp
  have := h.2.1 y hy
  omega
/-- The bytes tell the list. -/
theorem can_eq : ∀ {l m : List Rn}, Can l → Can m → (∀ p, Cov l p ↔ Cov m p) → l = m
  | [], [], _, _, _ => rfl
  | [], y :: m, _, hm, h => by
    have := (h y.at_).2 (Cov.cons.2 (.inl ⟨Nat.le_refl _, by unfold Rn.en; have := hm.1; omega⟩))
    exact absurd this Cov.nil
  | x :: l, [], hl, _, h => by
    have := (h x.at_).1 (Cov.cons.2 (.inl ⟨Nat.le_refl _, by unfold Rn.en; have := hl.1; omega⟩))
    exact absurd this Cov.nil
  | x :: l, y :: m, hl, hm, h => by
    have px := hl.1
    have py := hm.1
    have ex : x.en = x.at_ + x.len := rfl
    have ey : y.en = y.at_ + y.len := rfl
    have hx := fun p (h1 : x.at_ ≤ p) (h2 : p < x.en) => Cov.cons.1 ((h p).1 (Cov.cons.2 (.inl ⟨h1, h2⟩)))
    have hy := fun p (h1 : y.at_ ≤ p) (h2 : p < y.en) => Cov.cons.1 ((h p).2 (Cov.cons.2 (.inl ⟨h1, h2⟩)))
    have hat : x.at_ = y.at_ := by
      have a1 := hx x.at_ (Nat.le_refl _) (by omega)
      have a2 := hy y.at_ (Nat.le_refl _) (by omega)
      have b1 : y.at_ ≤ x.at_ := by
        rcases a1 with a1 | a1
        · exact a1.1
        · have := hm.gap a1; omega
      have b2 : x.at_ ≤ y.at_ := by
        rcases a2 with a2 | a2
        · exact a2.1
        · have := hl.gap a2; omega
      omega
    have hen : x.en = y.en := by
      rcases Nat.lt_trichotomy x.en y.en with c | c | c
      · have a2 := hy x.en (by omega) c
        rcases a2 with a2 | a2
        · omega
        · have := hl.gap a2; omega
      · exact c
      · have a1 := hx y.en (by omega) c
        rcases a1 with a1 | a1
        · omega
        · have := hm.gap a1; omega
    have hxy : x = y := by
      cases x; cases y
      simp only [Rn.en] at *
      congr
      omega
    subst hxy
    rw [can_eq hl.2.2 hm.2.2 fun p => ?_]
    have hp := h p
    rw [Cov.cons, Cov.cons] at hp
    constructor
    · intro c
      have g := hl.gap c
      rcases hp.1 (.inr c) with d | d
      · omega
      · exact d
    · intro c
      have g := hm.gap c
      rcases hp.2 (.inr c) with d | d
      · omega
      · exact d

/-! ### Put together -/
/-- One run more, behind a list that is kept in order; the last one is told apart. -/
def joinR : List Rn → Rn → List Rn
  | [], x => [x]
  | [y], x => if x.at_ ≤ y.en then [⟨y.at_, max y.len (x.en - y.at_)⟩] else [y, x]
  | y :: l, x => y :: joinR l x
def together (l : List Rn) : List Rn := l.foldl joinR []
theorem joinR_ne : ∀ (l : List Rn) (x : Rn), joinR l x ≠ []
  | [], x => by simp [joinR]
  | [y], x => by unfold joinR; split <;> simp
  | y :: z :: l, x => by simp [joinR]
theorem joinR_cov : ∀ {l : List Rn} {x : Rn}, (∀ y ∈ l, y.at_ ≤ x.at_) → ∀ p, Cov (joinR l x) p ↔ Cov l p ∨ (x.at_ ≤ p ∧ p < x.en)
  | [], x, _, p => by simp [joinR, Cov.cons, Cov.nil]
  | [y], x, h, p => by
    have hy := h y (by simp)
    unfold joinR
    split
    · rename_i hm
      simp only [Cov.cons, Cov.nil, or_false]
      unfold Rn.en at *
      dsimp only
      omega
    · simp [Cov.cons, Cov.nil]
  | y :: z :: l, x, h, p => by
    rw [joinR, Cov.cons, Cov.cons, joinR_cov (l := z :: l) (fun w hw => h w (List.mem_cons_of_mem _ hw))]
    · constructor
      · rintro (a | a | a)
        · exact .inl (.inl a)
        · exact .inl (.inr a)
        · exact .inr a
      · rintro ((a | a) | a)
        · exact .inl a
        · exact .inr (.inl a)
        · exact .inr (.inr a)
    · simp
theorem joinR_at : ∀ {l : List Rn} {x : Rn}, ∀ y ∈ joinR l x, y = x ∨ ∃ z ∈ l, z.at_ = y.at_
  | [], x, y, hy => by simp [joinR] at hy; exact .inl hy
  | [z], x, y, hy => by
    unfold joinR at hy
    split at hy
    · simp at hy; subst hy; exact .inr ⟨z, by simp, rfl⟩
    · simp at hy
      rcases hy with rfl | rfl
      · exact .inr ⟨y, by simp, rfl⟩
      · exact .inl rfl
  | z :: w :: l, x, y, hy => by
    rw [joinR] at hy
    · rcases List.mem_cons.1 hy with rfl | hy
      · exact .inr ⟨y, by simp, rfl⟩
      · rcases joinR_at y hy with h | ⟨v, hv, h⟩
        · exact .inl h
        · exact .inr ⟨v, List.mem_cons_of_mem _ hv, h⟩
    · simp
theorem joinR_can : ∀ {l : List Rn} {x : Rn}, Can l → 0 < x.len → (∀ y ∈ l, y.at_ ≤ x.at_) → Can (joinR l x)
  | [], x, _, hx, _ => ⟨hx, fun y hy => (by cases hy), trivial⟩
  | [y], x, hl, hx, h => by
    unfold joinR
    split
    · refine ⟨?_, fun y hy => (by cases hy), trivial⟩
      have := hl.1
      dsimp only; omega
    · refine ⟨hl.1, fun z hz => ?_, hx, fun z hz => (by cases hz), trivial⟩
      simp at hz; subst hz; omega
  | y :: z :: l, x, hl, hx, h => by
    rw [joinR]
    · refine ⟨hl.1, fun w hw => ?_, joinR_can hl.2.2 hx fun w hw => h w (List.mem_cons_of_mem _ hw)⟩
      rcases joinR_at w hw with rfl | ⟨v, hv, e⟩
      · have h1 := hl.2.1 z (by simp)
        have h2 := h z (by simp)
        omega
      · rw [← e]; exact hl.2.1 v hv
    · simp
theorem together_can : ∀ {l acc : List Rn}, Can acc → (∀ x ∈ l, 0 < x.len) → l.Pairwise (fun x y => x.at_ ≤ y.at_) → (∀ y ∈ acc, ∀ x ∈ l, y.at_ ≤ x.at_) → Can (l.foldl joinR acc) ∧ ∀ p, Cov (l.foldl joinR acc) p ↔ Cov acc p ∨ Cov l p
  | [], acc, h, _, _, _ => ⟨h, fun p => by simp [Cov.nil]⟩
  | x :: l, acc, h, hp, hs, hb => by
    have hb0 := fun y hy => hb y hy x (by simp)
    have hs' := List.pairwise_cons.1 hs
    obtain ⟨c1, c2⟩ := together_can (l := l) (acc := joinR acc x) (joinR_can h (hp x (by simp)) hb0) (fun y hy => hp y (List.mem_cons_of_mem _ hy)) hs'.2 (fun y hy z hz => by
      rcases joinR_at y hy with rfl | ⟨v, hv, e⟩
      · exact hs'.1 z hz
      · rw [← e]; exact hb v hv z (List.mem_cons_of_mem _ hz))
    refine ⟨c1, fun p => ?_⟩
    rw [List.foldl_cons, c2, joinR_cov hb0, Cov.cons]
    constructor
    · rintro ((a | a) | a)
      · exact .inl a
      · exact .inr (.inl a)
      · exact .inr (.inr a)
    · rintro (a | a | a)
      · exact .inl (.inl a)
      · exact .inl (.inr a)
      · exact .inr a

/-! ### Cut -/
/-- One run without the bytes of another. -/
def lessO (x y : Rn) : List Rn := (if y.at_ < min y.en x.at_ then [⟨y.at_, min y.en x.at_ - y.at_⟩] else []) ++ (if max y.at_ x.en < y.en then [⟨max y.at_ x.en, y.en - max y.at_ x.en⟩] else [])
def lessR (x : Rn) (l : List Rn) : List Rn := l.flatMap (lessO x)
def meet (x y : Rn) : Nat := min x.en y.en - max x.at_ y.at_
def bytesR (l : List Rn) : Nat := (l.map (·.len)).sum
def overR (x : Rn) (l : List Rn) : Nat := (l.map (meet x)).sum
theorem lessO_cov {x y : Rn} {p : Nat} : Cov (lessO x y) p ↔ (y.at_ ≤ p ∧ p < y.en) ∧ ¬ (x.at_ ≤ p ∧ p < x.en) := by
  unfold lessO
  rw [Cov.app]
  have h1 : Cov (if y.at_ < min y.en x.at_ then [⟨y.at_, min y.en x.at_ - y.at_⟩] else []) p ↔ y.at_ ≤ p ∧ p < min y.en x.at_ := by
    split
    · simp only [Cov.cons, Cov.nil, or_false, Rn.en] at *; omega
    · simp only [Cov.nil, false_iff] at *; omega
  have h2 : Cov (if max y.at_ x.en < y.en then [⟨max y.at_ x.en, y.en - max y.at_ x.en⟩] else []) p ↔ max y.at_ x.en ≤ p ∧ p < y.en := by
    split
    · simp only [Cov.cons, Cov.nil, or_false, Rn.en] at *; omega
    · simp only [Cov.nil, false_iff] at *; omega
  rw [h1, h2]
  unfold Rn.en
  omega
theorem lessR_cov {x : Rn} : ∀ {l : List Rn} {p : Nat}, Cov (lessR x l) p ↔ Cov l p ∧ ¬ (x.at_ ≤ p ∧ p < x.en)
  | [], p => by simp [lessR, Cov.nil]
  | y :: l, p => by
    have ih := lessR_cov (x := x) (l := l) (p := p)
    unfold lessR at ih ⊢
    rw [List.flatMap_cons, Cov.app, lessO_cov, ih, Cov.cons]
    constructor
    · rintro (⟨a, b⟩ | ⟨a, b⟩)
      · exact ⟨.inl a, b⟩
      · exact ⟨.inr a, b⟩
    · rintro ⟨a | a, b⟩
      · exact .inl ⟨a, b⟩
      · exact .inr ⟨a, b⟩
theorem lessO_mem {x y z : Rn} (hz : z ∈ lessO x y) : y.at_ ≤ z.at_ ∧ z.en ≤ y.en ∧ 0 < z.len := by
  unfold lessO at hz
  rcases List.mem_append.1 hz with hz | hz
  · split at hz
    · simp at hz; subst hz
      unfold Rn.en at *; dsimp only; omega
    · cases hz
  · split at hz
    · simp at hz; subst hz
      unfold Rn.en at *; dsimp only; omega
    · cases hz
theorem lessR_mem {x : Rn} {l : List Rn} {z : Rn} (hz : z ∈ lessR x l) : ∃ y ∈ l, y.at_ ≤ z.at_ ∧ z.en ≤ y.en ∧ 0 < z.len := by
  obtain ⟨y, hy, hz⟩ := List.mem_flatMap.1 hz
  exact ⟨y, hy, lessO_mem hz⟩
theorem can_app : ∀ {l m : List Rn}, Can l → Can m → (∀ x ∈ l, ∀ y ∈ m, x.en < y.at_) → Can (l ++ m)
  | [], m, _, h, _ => h
  | x :: l, m, h1, h2, h3 => ⟨h1.1, fun y hy => (List.mem_append.1 hy).elim (h1.2.1 y) (h3 x (by simp) y), can_app h1.2.2 h2 fun z hz => h3 z (List.mem_cons_of_mem _ hz)⟩
theorem lessR_can {x : Rn} (hx : 0 < x.len) : ∀ {l : List Rn}, Can l → Can (lessR x l)
  | [], _ => trivial
  | y :: l, h => by
    unfold lessR
    rw [List.flatMap_cons]
    refine can_app ?_ (lessR_can hx h.2.2) fun a ha b hb => ?_
    · unfold lessO
      refine can_app ?_ ?_ fun a ha b hb => ?_
      · split
        · exact ⟨by dsimp only; omega, fun z hz => (by cases hz), trivial⟩
        · trivial
      · split
        · exact ⟨by dsimp only; omega, fun z hz => (by cases hz), trivial⟩
        · trivial
      · split at ha
        · split at hb
          · simp at ha hb; subst ha hb
            unfold Rn.en at *; dsimp only; omega
          · cases hb
        · cases ha
    · have h1 := lessO_mem ha
      obtain ⟨z, hz, h2⟩ := lessR_mem hb
      have := h.2.1 z hz
      omega
theorem lessO_bytes {x y : Rn} : bytesR (lessO x y) + meet x y = y.len := by
  unfold lessO bytesR meet
  rw [List.map_append, List.sum_append]
  have h1 : ((if y.at_ < min y.en x.at_ then [(⟨y.at_, min y.en x.at_ - y.at_⟩ : Rn)] else []).map (·.len)).sum = min y.en x.at_ - y.at_ := by
    split <;> simp <;> omega
  have h2 : ((if max y.at_ x.en < y.en then [(⟨max y.at_ x.en, y.en - max y.at_ x.en⟩ : Rn)] else []).map (·.len)).sum = y.en - max y.at_ x.en := by
    split <;> simp <;> omega
  rw [h1, h2]
  unfold Rn.en
  omega
theorem bytesR_app (l m : List Rn) : bytesR (l ++ m) = bytesR l + bytesR m := by unfold bytesR; rw [List.map_append, List.sum_append]
theorem lessR_bytes {x : Rn} : ∀ {l : List Rn}, bytesR (lessR x l) + overR x l = bytesR l
  | [] => rfl
  | y :: l => by
    have ih := lessR_bytes (x := x) (l := l)
    have h1 := lessO_bytes (x := x) (y := y)
    unfold lessR at ih ⊢
    rw [List.flatMap_cons, bytesR_app]
    have h2 : overR x (y :: l) = meet x y + overR x l := by unfold overR; simp
    have h3 : bytesR (y :: l) = y.len + bytesR l := by unfold bytesR; simp
    rw [h2, h3]; omega
/-- Nothing of a run is left where it was cut. -/
theorem over_less {x : Rn} {l : List Rn} : overR x (lessR x l) = 0 := by
  have h : ∀ z ∈ lessR x l, meet x z = 0 := fun z hz => by
    obtain ⟨y, hy, hz⟩ := List.mem_flatMap.1 hz
    unfold lessO at hz
    unfold meet
    rcases List.mem_append.1 hz with hz | hz
    · split at hz
      · simp at hz; subst hz
        unfold Rn.en at *; dsimp only; omega
      · cases hz
    · split at hz
      · simp at hz; subst hz
        unfold Rn.en at *; dsimp only; omega
      · cases hz
  unfold overR
  have : ∀ m : List Rn, (∀ z ∈ m, meet x z = 0) → (m.map (meet x)).sum = 0 := fun m hm => by
    induction m with
    | nil => rfl
    | cons z m ih => rw [List.map_cons, List.sum_cons, hm z (by simp), ih fun w hw => hm w (List.mem_cons_of_mem _ hw)]
  exact this _ h

/-! ### One run more -/
def mergeR (x y : Rn) : Rn := ⟨min x.at_ y.at_, max x.en y.en - min x.at_ y.at_⟩
def insR : List Rn → Rn → List Rn
  | [], x => [x]
  | y :: l, x => if y.en < x.at_ then y :: insR l x else if x.en < y.at_ then x :: y :: l else insR l (mergeR x y)
theorem insR_cov : ∀ {l : List Rn} {x : Rn} {p : Nat}, Cov (insR l x) p ↔ Cov l p ∨ (x.at_ ≤ p ∧ p < x.en)
  | [], x, p => by simp [insR, Cov.cons, Cov.nil]
  | y :: l, x, p => by
    unfold insR
    split
    · rw [Cov.cons, insR_cov (l := l), Cov.cons]
      constructor
      · rintro (a | a | a)
        · exact .inl (.inl a)
        · exact .inl (.inr a)
        · exact .inr a
      · rintro ((a | a) | a)
        · exact .inl a
        · exact .inr (.inl a)
        · exact .inr (.inr a)
    · split
      · rw [Cov.cons]
        exact Or.comm
      · rename_i h1 h2
        rw [insR_cov (l := l), Cov.cons]
        have : ((mergeR x y).at_ ≤ p ∧ p < (mergeR x y).en) ↔ (y.at_ ≤ p ∧ p < y.en) ∨ (x.at_ ≤ p ∧ p < x.en) := by
          unfold mergeR Rn.en at *
          dsimp only
          omega
        rw [this]
        constructor
        · rintro (a | a | a)
          · exact .inl (.inr a)
          · exact .inl (.inl a)
          · exact .inr a
        · rintro ((a | a) | a)
          · exact .inr (.inl a)
          · exact .inl a
          · exact .inr (.inr a)
theorem insR_low : ∀ {l : List Rn} {x : Rn} {n : Nat}, n < x.at_ → (∀ y ∈ l, n < y.at_) → ∀ z ∈ insR l x, n < z.at_
  | [], x, n, h, _, z, hz => by simp [insR] at hz; subst hz; exact h
  | y :: l, x, n, h, hl, z, hz => by
    unfold insR at hz
    split at hz
    · rcases List.mem_cons.1 hz with rfl | hz
      · exact hl _ (by simp)
      · exact insR_low h (fun w hw => hl w (List.mem_cons_of_mem _ hw)) z hz
    · split at hz
      · rcases List.mem_cons.1 hz with rfl | hz
        · exact h
        · exact hl z hz
      · refine insR_low ?_ (fun w hw => hl w (List.mem_cons_of_mem _ hw)) z hz
        have := hl y (by simp)
        unfold mergeR; dsimp only; omega
theorem insR_can : ∀ {l : List Rn} {x : Rn}, Can l → 0 < x.len → Can (insR l x)
  | [], x, _, hx => ⟨hx, fun y hy => (by cases hy), trivial⟩
  | y :: l, x, h, hx => by
    unfold insR
    split
    · rename_i h1
      exact ⟨h.1, insR_low h1 h.2.1, insR_can h.2.2 hx⟩
    · split
      · rename_i h1 h2
        refine ⟨hx, fun z hz => ?_, h⟩
        rcases List.mem_cons.1 hz with rfl | hz
        · exact h2
        · have := h.2.1 z hz
          have := h.1
          unfold Rn.en at *; omega
      · refine insR_can h.2.2 ?_
        have := h.1
        unfold mergeR Rn.en; dsimp only; omega
/-- Runs put one by one are runs put together. -/
theorem ins_fold : ∀ {l acc : List Rn}, Can acc → (∀ x ∈ l, 0 < x.len) → Can (l.foldl insR acc) ∧ ∀ p, Cov (l.foldl insR acc) p ↔ Cov acc p ∨ Cov l p
  | [], acc, h, _ => ⟨h, fun p => by simp [Cov.nil]⟩
  | x :: l, acc, h, hp => by
    obtain ⟨c1, c2⟩ := ins_fold (l := l) (insR_can h (hp x (by simp))) (fun y hy => hp y (List.mem_cons_of_mem _ hy))
    refine ⟨c1, fun p => ?_⟩
    rw [List.foldl_cons, c2, insR_cov, Cov.cons]
    constructor
    · rintro ((a | a) | a)
      · exact .inl a
      · exact .inr (.inl a)
      · exact .inr (.inr a)
    · rintro (a | a | a)
      · exact .inl (.inl a)
      · exact .inl (.inr a)
      · exact .inr a
theorem Cov.perm {l m : List Rn} (h : l.Perm m) {p : Nat} : Cov l p ↔ Cov m p := by
  unfold Cov
  constructor
  · rintro ⟨x, hx, hp⟩; exact ⟨x, h.mem_iff.1 hx, hp⟩
  · rintro ⟨x, hx, hp⟩; exact ⟨x, h.mem_iff.2 hx, hp⟩
/-- The code's putting together, of what waits and what comes, sorted, is the document's. -/
theorem together_ins {was l s : List Rn} (hw : Can was) (hl : ∀ x ∈ l, 0 < x.len) (hs : s.Perm (was ++ l)) (ho : s.Pairwise fun x y => x.at_ ≤ y.at_) : together s = l.foldl insR was := by
  have hp : ∀ x ∈ s, 0 < x.len := fun x hx => by
    rcases List.mem_append.1 (hs.mem_iff.1 hx) with h | h
    · exact hw.pos x h
    · exact hl x h
  obtain ⟨c1, c2⟩ := together_can (l := s) (acc := []) trivial hp ho (fun y hy => by cases hy)
  obtain ⟨d1, d2⟩ := ins_fold hw hl
  refine can_eq c1 d1 fun p => ?_
  show Cov (s.foldl joinR []) p ↔ _
  rw [c2, d2, Cov.perm hs, Cov.app]
  simp [Cov.nil]
/-- The first bytes are taken off. -/
theorem less_first {x : Rn} {l : List Rn} {k : Nat} (h : Can (x :: l)) (hk : 0 < k) (hk2 : k ≤ x.len) : lessR ⟨x.at_, k⟩ (x :: l) = if k = x.len then l else ⟨x.at_ + k, x.len - k⟩ :: l := by
  have hc := lessR_can (x := ⟨x.at_, k⟩) hk h
  have hr : Can (if k = x.len then l else ⟨x.at_ + k, x.len - k⟩ :: l) := by
    split
    · exact h.2.2
    · refine ⟨by dsimp only; omega, fun y hy => ?_, h.2.2⟩
      have := h.2.1 y hy
      unfold Rn.en at *; dsimp only; omega
  refine can_eq hc hr fun p => ?_
  rw [lessR_cov, Cov.cons]
  have hg := fun (c : Cov l p) => h.gap c
  unfold Rn.en at *
  split
  · constructor
    · rintro ⟨a | a, b⟩
      · dsimp only at b; omega
      · exact a
    · intro a
      have := hg a
      refine ⟨.inr a, ?_⟩
      dsimp only; omega
  · rw [Cov.cons]
    unfold Rn.en
    dsimp only
    constructor
    · rintro ⟨a | a, b⟩
      · left; omega
      · exact .inr a
    · rintro (a | a)
      · exact ⟨.inl (by omega), by omega⟩
      · have := hg a
        exact ⟨.inr a, by omega⟩

/-! ### A run of the midst -/
theorem can_mid : ∀ {A B : List Rn} {x : Rn}, Can (A ++ x :: B) → Can (A ++ B) ∧ 0 < x.len ∧ (∀ y ∈ A, y.en < x.at_) ∧ (∀ y ∈ B, x.en < y.at_)
  | [], B, x, h => ⟨h.2.2, h.1, fun y hy => (by cases hy), h.2.1⟩
  | a :: A, B, x, h => by
    obtain ⟨h1, h2, h3, h4⟩ := can_mid (A := A) h.2.2
    refine ⟨⟨h.1, fun y hy => h.2.1 y ?_, h1⟩, h2, fun y hy => ?_, h4⟩
    · rcases List.mem_append.1 hy with hy | hy
      · simp [hy]
      · simp [hy]
    · rcases List.mem_cons.1 hy with rfl | hy
      · exact h.2.1 x (by simp)
      · exact h3 y hy
theorem less_mid {A B : List Rn} {x : Rn} (h : Can (A ++ x :: B)) : lessR x (A ++ x :: B) = A ++ B := by
  obtain ⟨h1, h2, h3, h4⟩ := can_mid h
  refine can_eq (lessR_can h2 h) h1 fun p => ?_
  rw [lessR_cov, Cov.app, Cov.app, Cov.cons]
  have ha : Cov A p → p < x.at_ := fun ⟨y, hy, c1, c2⟩ => by have := h3 y hy; omega
  have hb : Cov B p → x.en < p := fun ⟨y, hy, c1, c2⟩ => by have := h4 y hy; omega
  constructor
  · rintro ⟨a | a | a, b⟩
    · exact .inl a
    · exact absurd a b
    · exact .inr a
  · rintro (a | a)
    · have := ha a
      exact ⟨.inl a, by omega⟩
    · have := hb a
      exact ⟨.inr (.inr a), by unfold Rn.en at *; omega⟩
/-- A run that begins where one ends, and meets no other. -/
theorem ins_beside {A B : List Rn} {x y : Rn} (h : Can (A ++ y :: B)) (hx : 0 < x.len) (he : y.en = x.at_) (hb : ∀ z ∈ B, x.en < z.at_) : insR (A ++ y :: B) x = A ++ ⟨y.at_, y.len + x.len⟩ :: B := by
  obtain ⟨h1, h2, h3, h4⟩ := can_mid h
  have hc : Can (A ++ ⟨y.at_, y.len + x.len⟩ :: B) := by
    refine can_app ?_ ⟨by dsimp only; omega, fun z hz => ?_, ?_⟩ fun a ha b hb' => ?_
    · have : ∀ {A B : List Rn}, Can (A ++ B) → Can A := fun {A} => by
        induction A with
        | nil => exact fun _ => trivial
        | cons a A ih => exact fun {B} h => ⟨h.1, fun y hy => h.2.1 y (by simp [hy]), ih h.2.2⟩
      exact this h1
    · have := hb z hz
      unfold Rn.en at *; dsimp only; omega
    · have : ∀ {A B : List Rn}, Can (A ++ B) → Can B := fun {A} => by
        induction A with
        | nil => exact fun h => h
        | cons a A ih => exact fun {B} h => ih h.2.2
      exact this h1
    · rcases List.mem_cons.1 hb' with rfl | hb'
      · exact h3 a ha
      · have := h3 a ha
        have := h4 b hb'
        unfold Rn.en at *; omega
  refine can_eq (insR_can h hx) hc fun p => ?_
  rw [insR_cov, Cov.app, Cov.app, Cov.cons, Cov.cons]
  unfold Rn.en at *
  dsimp only
  constructor
  · rintro ((a | a | a) | a)
    · exact .inl a
    · exact .inr (.inl (by omega))
    · exact .inr (.inr a)
    · exact .inr (.inl (by omega))
  · rintro (a | a | a)
    · exact .inl (.inl a)
    · by_cases c : p < y.at_ + y.len
      · exact .inl (.inr (.inl (by omega)))
      · exact .inr (by omega)
    · exact .inl (.inr (.inr a))

/-! ### The document's way of putting one run more -/
def lastLt (o : List Rn) (x : Rn) : Bool := match o.getLast? with | none => true | some z => decide (z.at_ < x.at_)
def withStep (s : List Rn × Rn) (y : Rn) : List Rn × Rn :=
  if y.en < s.2.at_ ∨ s.2.en < y.at_ then (if s.2.at_ < y.at_ ∧ lastLt s.1 s.2 = true then (s.1 ++ [s.2] ++ [y], s.2) else (s.1 ++ [y], s.2)) else (s.1, mergeR s.2 y)
def withEnd (s : List Rn × Rn) : List Rn := if lastLt s.1 s.2 = true then s.1 ++ [s.2] else s.1
theorem lastLt_snoc (o : List Rn) (y x : Rn) : lastLt (o ++ [y]) x = decide (y.at_ < x.at_) := by unfold lastLt; simp
theorem with_after : ∀ {l o : List Rn} {x z : Rn}, x.at_ ≤ z.at_ → (∀ y ∈ l, x.en < y.at_) → withEnd (l.foldl withStep (o ++ [z], x)) = o ++ [z] ++ l
  | [], o, x, z, hz, _ => by
    show withEnd (o ++ [z], x) = _
    unfold withEnd
    dsimp only
    rw [lastLt_snoc, if_neg (by simp; omega), List.append_nil]
  | y :: l, o, x, z, hz, h => by
    have hy := h y (by simp)
    have hst : withStep (o ++ [z], x) y = (o ++ [z] ++ [y], x) := by
      unfold withStep
      dsimp only
      rw [if_pos (.inr hy), if_neg]
      rintro ⟨-, e⟩
      rw [lastLt_snoc] at e
      simp at e
      omega
    rw [List.foldl_cons, hst, with_after (by unfold Rn.en at hy; omega) (fun w hw => h w (List.mem_cons_of_mem _ hw))]
    simp
theorem with_ins : ∀ {l o : List Rn} {x : Rn}, Can l → 0 < x.len → lastLt o x = true → (∀ z ∈ o, ∀ y ∈ l, z.at_ < y.at_) → withEnd (l.foldl withStep (o, x)) = o ++ insR l x
  | [], o, x, _, _, h, _ => by
    show withEnd (o, x) = _
    unfold withEnd
    dsimp only
    rw [if_pos h]; rfl
  | y :: l, o, x, hl, hx, h, ho => by
    have py := hl.1
    rw [List.foldl_cons]
    unfold insR
    by_cases h1 : y.en < x.at_
    · have hst : withStep (o, x) y = (o ++ [y], x) := by
        unfold withStep
        dsimp only
        rw [if_pos (.inl h1), if_neg]
        rintro ⟨e, -⟩
        unfold Rn.en at h1
        omega
      rw [hst, if_pos h1, with_ins hl.2.2 hx (by rw [lastLt_snoc]; simp; unfold Rn.en at h1; omega) (fun z hz w hw => by
        rcases List.mem_append.1 hz with hz | hz
        · exact ho z hz w (List.mem_cons_of_mem _ hw)
        · simp at hz; subst hz
          have := hl.2.1 w hw
          unfold Rn.en at this; omega)]
      simp
    · rw [if_neg h1]
      by_cases h2 : x.en < y.at_
      · have hst : withStep (o, x) y = (o ++ [x] ++ [y], x) := by
          unfold withStep
          dsimp only
          rw [if_pos (.inr h2), if_pos ⟨by unfold Rn.en at h2; omega, h⟩]
        rw [hst, if_pos h2, with_after (by unfold Rn.en at h2; omega) (fun w hw => by
          have := hl.2.1 w hw
          unfold Rn.en at *; omega)]
        simp
      · have hst : withStep (o, x) y = (o, mergeR x y) := by
          unfold withStep
          dsimp only
          rw [if_neg (by omega)]
        rw [hst, if_neg h2]
        refine with_ins hl.2.2 ?_ ?_ (fun z hz w hw => ho z hz w (List.mem_cons_of_mem _ hw))
        · unfold mergeR Rn.en; dsimp only; omega
        · unfold lastLt at h ⊢
          cases hg : o.getLast? with
          | none => rfl
          | some z =>
            rw [hg] at h
            have h9 := ho z (List.mem_of_getLast? hg) y (by simp)
            simp at h ⊢
            unfold mergeR
            dsimp only
            omega
/-- The document's With. -/
theorem with_eq {l : List Rn} {x : Rn} (hl : Can l) (hx : 0 < x.len) : withEnd (l.foldl withStep ([], x)) = insR l x := by
  have := with_ins (o := []) hl hx rfl (fun z hz => by cases hz)
  simpa using this

/-! ### How much is covered -/
def ivR (a b : Nat) (l : List Rn) : Nat := (l.map fun y => min b y.en - max a y.at_).sum
theorem ivR_cons (a b : Nat) (y : Rn) (l : List Rn) : ivR a b (y :: l) = (min b y.en - max a y.at_) + ivR a b l := by unfold ivR; simp
theorem ivR_le : ∀ {l : List Rn} {a b n : Nat}, Can l → (∀ y ∈ l, n ≤ y.at_) → ivR a b l ≤ b - max a n
  | [], a, b, n, _, _ => by unfold ivR; simp
  | y :: l, a, b, n, h, hn => by
    have ih := ivR_le (l := l) (a := a) (b := b) (n := y.en) h.2.2 (fun z hz => by have := h.2.1 z hz; omega)
    have h1 := hn y (by simp)
    have h2 := h.1
    rw [ivR_cons]
    unfold Rn.en at *
    omega
theorem over_iv (x : Rn) (l : List Rn) : overR x l = ivR x.at_ x.en l := by unfold overR ivR meet; rfl
theorem over_app (x : Rn) (l m : List Rn) : overR x (l ++ m) = overR x l + overR x m := by unfold overR; rw [List.map_append, List.sum_append]
theorem over_lessO {x c y : Rn} : meet x y ≤ overR x (lessO c y) + (min (min x.en c.en) y.en - max (max x.at_ c.at_) y.at_) := by
  unfold lessO
  rw [over_app]
  have h1 : overR x (if y.at_ < min y.en c.at_ then [⟨y.at_, min y.en c.at_ - y.at_⟩] else []) = min x.en (min y.en c.at_) - max x.at_ y.at_ := by
    split
    · unfold overR meet Rn.en at *; simp; omega
    · unfold overR Rn.en at *; simp; omega
  have h2 : overR x (if max y.at_ c.en < y.en then [⟨max y.at_ c.en, y.en - max y.at_ c.en⟩] else []) = min x.en y.en - max x.at_ (max y.at_ c.en) := by
    split
    · unfold overR meet Rn.en at *; simp; omega
    · unfold overR Rn.en at *; simp; omega
  rw [h1, h2]
  unfold meet Rn.en
  omega
theorem over_lessR {x c : Rn} : ∀ {l : List Rn}, overR x l ≤ overR x (lessR c l) + ivR (max x.at_ c.at_) (min x.en c.en) l
  | [] => by unfold overR; simp
  | y :: l => by
    have ih := over_lessR (x := x) (c := c) (l := l)
    have h1 := over_lessO (x := x) (c := c) (y := y)
    have h2 : overR x (y :: l) = meet x y + overR x l := by unfold overR; simp
    have h3 : lessR c (y :: l) = lessO c y ++ lessR c l := by unfold lessR; rw [List.flatMap_cons]
    rw [h2, h3, over_app, ivR_cons]
    omega
/-- A cut takes no more than it has in common. -/
theorem over_cut {x c : Rn} {l : List Rn} (h : Can l) : overR x l ≤ overR x (lessR c l) + meet x c := by
  have h1 := over_lessR (x := x) (c := c) (l := l)
  have h2 := ivR_le (l := l) (a := max x.at_ c.at_) (b := min x.en c.en) (n := 0) h (fun y hy => Nat.zero_le _)
  unfold meet
  omega
theorem over_le {x : Rn} {l : List Rn} (h : Can l) : overR x l ≤ x.len := by
  rw [over_iv]
  have := ivR_le (l := l) (a := x.at_) (b := x.en) (n := 0) h (fun y hy => Nat.zero_le _)
  unfold Rn.en at *
  omega
/-- Of a run that waits all waits, and nothing right beside it. -/
theorem over_self {A B : List Rn} {x : Rn} {a b : Nat} (h : Can (A ++ x :: B)) (ha : a ≤ x.at_) (ha2 : x.at_ ≤ a + 1) (hb : x.en ≤ b) (hb2 : b ≤ x.en + 1) : ivR a b (A ++ x :: B) = x.len := by
  obtain ⟨h1, h2, h3, h4⟩ := can_mid h
  have z : ∀ m : List Rn, (∀ y ∈ m, min b y.en - max a y.at_ = 0) → ivR a b m = 0 := fun m hm => by
    induction m with
    | nil => rfl
    | cons y m ih => rw [ivR_cons, hm y (by simp), ih fun w hw => hm w (List.mem_cons_of_mem _ hw)]
  have e : ivR a b (A ++ x :: B) = ivR a b A + ivR a b (x :: B) := by unfold ivR; rw [List.map_append, List.sum_append]
  rw [e, ivR_cons, z A fun y hy => ?_, z B fun y hy => ?_]
  · unfold Rn.en at *; omega
  · have := h4 y hy
    unfold Rn.en at *; omega
  · have := h3 y hy
    unfold Rn.en at *; omega
end Go.Vc
