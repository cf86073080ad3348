/- Sorting: pattern-defeating quicksort. -/
import Derived.Test.YtlligpgjkmfhpaaSrtC
set_option linter.unusedSimpArgs false
set_option linter.unusedVariables false
namespace Go.Proofs.Ytlligpgjkmfhpaa
open Go.Vc Go.Sort

section
variable {α : Type} [Inhabited α] {K : Value → Heap → Prop} {h0 h : Heap} {b n c : Nat} {val : α → Value} {d : Array α} {f : Value} {cm : α → α → Int}

/-- What pdq does behind the pivot's choice. -/
def pdqR (lt : α → α → Bool) (a b l1 pivot : Nat) (wb wp : Bool) (d3 : Array α) : Array α :=
  if a > 0 && !lt d3[a - 1]! d3[pivot]! then
    match partitionEqual lt d3 a b pivot with
    | (mid, d4) => if _h : a < mid ∧ mid ≤ b then pdq lt d4 mid b l1 wb wp else d4
  else
    match partition lt d3 a b pivot with
    | (mid, alreadyPartitioned, d4) =>
      if _h : a ≤ mid ∧ mid < b then
        if mid - a < b - mid then
          pdq lt (pdq lt d4 a mid l1 true true) (mid + 1) b l1 (decide (mid - a ≥ (b - a) / 8)) alreadyPartitioned
        else
          pdq lt (pdq lt d4 (mid + 1) b l1 true true) a mid l1 (decide (b - mid ≥ (b - a) / 8)) alreadyPartitioned
      else d4
theorem pdq_step {lt : α → α → Bool} {d d1 d2 : Array α} {a b limit l1 pivot : Nat} {wb wp : Bool} {cc : Nat × Hint} {hint : Hint} (h12 : ¬ b - a ≤ 12) (hl : ¬ limit = 0) (e1 : d1 = if !wb then breakPatterns d a b else d) (e2 : l1 = if !wb then limit - 1 else limit)
    (ec : cc = choosePivot lt d1 a b) (e3 : d2 = if cc.2 = .decreasing then reverseRange d1 a b else d1) (e4 : pivot = if cc.2 = .decreasing then (b - 1) - (cc.1 - a) else cc.1) (e5 : hint = if cc.2 = .decreasing then Hint.increasing else cc.2) :
    pdq lt d a b limit wb wp = (if (if wb && wp && decide (hint = .increasing) then partialInsertionSort lt d2 a b else (d2, false)).2 = true then (if wb && wp && decide (hint = .increasing) then partialInsertionSort lt d2 a b else (d2, false)).1 else pdqR lt a b l1 pivot wb wp (if wb && wp && decide (hint = .increasing) then partialInsertionSort lt d2 a b else (d2, false)).1) := by
  rw [pdq, if_neg h12, if_neg hl]
  subst e1 e2 ec e3 e4 e5
  rfl

set_option maxHeartbeats 4000000 in
theorem pdqC_c (hf : CmpOk Try.prog f b h0 val cm) (hone : ∀ x, one (val x) = true) (hn : n < 100000) : ∀ (N : Nat) {K : Value → Heap → Prop} {h : Heap} {d : Array α} {x y lim : Nat}, y - x ≤ N → SA 59 b n c val h0 h d → x ≤ y → y ≤ n → lim < 100000 → (∀ h', SA 59 b n c val h0 h' (pdq (ltC cm) d x y lim true true) → K (.tuple #[]) h') →
    CallsH Try.prog 68 #[slV b n c, .int .i64 x, .int .i64 y, .int .i64 lim, f] h K ⟨⟩ := by
  intro N
  induction N using Nat.strongRecOn with
  | _ N ih =>
  intro K h d x y lim hN s hxy hy hlim H
  refine n68_calls ?_
  unfold n68
  refine loopX5 (α := Nat × Nat × Nat × Bool × Bool × Array α) (fun a => .int .i64 a.1) (fun a => .int .i64 a.2.1) (fun a => .int .i64 a.2.2.1) (fun a => .bool a.2.2.2.1) (fun a => .bool a.2.2.2.2.1) (fun a g => SA 59 b n c val h0 g a.2.2.2.2.2 ∧ a.1 ≤ a.2.1 ∧ a.2.1 ≤ n ∧ a.2.1 - a.1 ≤ N ∧ a.2.2.1 < 100000 ∧ pdq (ltC cm) a.2.2.2.2.2 a.1 a.2.1 a.2.2.1 a.2.2.2.1 a.2.2.2.2.1 = pdq (ltC cm) d x y lim true true) (fun a => a.2.1 - a.1) (x, y, lim, true, true, d) ⟨rfl, rfl, rfl, rfl, rfl⟩ ⟨s, hxy, hy, hN, hlim, rfl⟩ ?_
  generalize pdq (ltC cm) d x y lim true true = T at H ⊢
  clear s hxy hy hN hlim
  rintro ⟨x, y, lim, wb, wp, d⟩ g ⟨s, hxy, hy, hN, hlim, ht⟩ X hX
  dsimp only at s hxy hy hN hlim ht hX ⊢
  refine JoinN.mk ?_
  by_cases h12 : y - x ≤ 12
  · simp (disch := omega)
    rw [pdq, if_pos h12] at ht
    refine insC_c hf hone s hn hxy hy fun g1 s1 => ?_
    exact H _ (ht ▸ s1)
  · by_cases hl0 : lim = 0
    · simp (disch := omega)
      rw [pdq, if_neg h12, if_pos hl0] at ht
      refine heapC_c hf hone s hn (by omega) hy fun g1 s1 => ?_
      exact H _ (ht ▸ s1)
    · obtain ⟨d1, e1⟩ : ∃ d1, d1 = if !wb then breakPatterns d x y else d := ⟨_, rfl⟩
      obtain ⟨l1, e2⟩ : ∃ l1, l1 = if !wb then lim - 1 else lim := ⟨_, rfl⟩
      obtain ⟨cc, ec⟩ : ∃ cc, cc = choosePivot (ltC cm) d1 x y := ⟨_, rfl⟩
      obtain ⟨d2, e3⟩ : ∃ d2, d2 = if cc.2 = .decreasing then reverseRange d1 x y else d1 := ⟨_, rfl⟩
      obtain ⟨pv, e4⟩ : ∃ pv, pv = if cc.2 = .decreasing then (y - 1) - (cc.1 - x) else cc.1 := ⟨_, rfl⟩
      obtain ⟨hint, e5⟩ : ∃ hint, hint = if cc.2 = .decreasing then Hint.increasing else cc.2 := ⟨_, rfl⟩
      have ht2 := pdq_step (lt := ltC cm) (wp := wp) h12 hl0 e1 e2 ec e3 e4 e5
      rw [ht] at ht2
      clear ht
      have hcb := choosePivot_holds (ltC cm) d1 x y (by omega)
      rw [← ec] at hcb
      have hpx : x ≤ pv := by rw [e4]; split <;> omega
      have hpy : pv < y := by rw [e4]; split <;> omega
      have hl1 : l1 < 100000 := by rw [e2]; split <;> omega
      simp (disch := omega)
      refine JoinN_in1 (fun w g' => w = .int .i64 l1 ∧ SA 59 b n c val h0 g' d1) (fun kk hkk => ?_) (fun w g1 hw => ?_)
      · cases wb with
        | true =>
          simp (disch := omega)
          refine hkk _ _ ⟨?_, ?_⟩
          · rw [e2]; rfl
          · rw [e1]; exact s
        | false =>
          simp (disch := omega)
          refine brkC_c hone s hn (by omega) hy fun g1 s1 => ?_
          simp (disch := omega)
          refine hkk _ _ ⟨?_, ?_⟩
          · rw [e2]; simp; omega
          · rw [e1]; exact s1
      · obtain ⟨rfl, s1⟩ := hw
        refine pivC_c hf s1 hn (by omega) hy fun g2 s2 => ?_
        rw [← ec]
        simp (disch := omega)
        refine JoinN_in2 (fun w1 w2 g' => w1 = .int .i64 pv ∧ w2 = .int .i64 (hintV hint) ∧ SA 59 b n c val h0 g' d2) (fun kk hkk => ?_) (fun w1 w2 g3 hw => ?_)
        · by_cases hdc : cc.2 = .decreasing
          · rw [if_pos hdc] at e3 e4 e5
            rw [hdc]
            simp (disch := omega) [hintV]
            refine revC_c hf hone s2 hn (by omega) hy fun g3 s3 => ?_
            simp (disch := omega)
            refine hkk _ _ _ ⟨?_, ?_, ?_⟩
            · rw [e4]; congr 1; omega
            · rw [e5]; rfl
            · rw [e3]; exact s3
          · rw [if_neg hdc] at e3 e4 e5
            have h2 : hintV cc.2 ≠ 2 := by
              intro e
              cases hcc : cc.2 <;> rw [hcc] at e hdc <;> first | exact hdc rfl | (simp [hintV] at e)
            simp (disch := omega) [h2]
            refine hkk _ _ _ ⟨?_, ?_, ?_⟩
            · rw [e4]
            · rw [e5]
            · rw [e3]; exact s2
        · obtain ⟨rfl, rfl, s3⟩ := hw
          refine JoinN_in0 (fun g' => ∃ d3, SA 59 b n c val h0 g' d3 ∧ T = pdqR (ltC cm) x y l1 pv wb wp d3) (fun kk hkk => ?_) (fun g5 hw => ?_)
          · by_cases hb : (wb && wp && decide (hint = .increasing)) = true
            · rw [if_pos hb] at ht2
              simp at hb
              obtain ⟨⟨hb1, hb2⟩, hb3⟩ := hb
              rw [hb3, hb1, hb2]
              simp (disch := omega) [hintV]
              refine partC_c hf hone s3 hn (by omega) hy fun g4 s4 => ?_
              generalize partialInsertionSort (ltC cm) d2 x y = r at ht2 s4 ⊢
              obtain ⟨rd, rb⟩ := r
              cases rb with
              | true =>
                simp (disch := omega)
                exact H _ (ht2 ▸ s4)
              | false =>
                simp (disch := omega)
                refine hkk _ ⟨rd, s4, ?_⟩
                rw [ht2, hb1, hb2]
                rfl
            · rw [if_neg hb] at ht2
              have hsk : kk g3 := hkk _ ⟨d2, s3, by rw [ht2]; rfl⟩
              cases wb with
              | false => simp (disch := omega); exact hsk
              | true =>
                cases wp with
                | false => simp (disch := omega); exact hsk
                | true =>
                  have h1 : hintV hint ≠ 1 := by
                    intro e
                    cases hint <;> first | exact hb rfl | (simp [hintV] at e)
                  simp (disch := omega) [h1]
                  exact hsk
          · obtain ⟨d3, s5, ht3⟩ := hw
            clear ht2
            obtain ⟨mid0, ap0, d40, hpr⟩ : ∃ m q z, partition (ltC cm) d3 x y pv = (m, q, z) := ⟨_, _, _, rfl⟩
            have hR : ¬ (decide (x > 0) && !ltC cm d3[x - 1]! d3[pv]!) = true → T = (if x ≤ mid0 ∧ mid0 < y then (if mid0 - x < y - mid0 then pdq (ltC cm) (pdq (ltC cm) d40 x mid0 l1 true true) (mid0 + 1) y l1 (decide (mid0 - x ≥ (y - x) / 8)) ap0 else pdq (ltC cm) (pdq (ltC cm) d40 (mid0 + 1) y l1 true true) x mid0 l1 (decide (y - mid0 ≥ (y - x) / 8)) ap0) else d40) := fun hc => by
              rw [ht3]
              unfold pdqR
              rw [if_neg hc, hpr]
              rfl
            have hE : (decide (x > 0) && !ltC cm d3[x - 1]! d3[pv]!) = true → T = (match partitionEqual (ltC cm) d3 x y pv with | (mid, d4) => if _h : x < mid ∧ mid ≤ y then pdq (ltC cm) d4 mid y l1 wb wp else d4) := fun hc => by
              rw [ht3]
              unfold pdqR
              rw [if_pos hc]
            refine (fun key => ?main : (¬ (decide (x > 0) && !ltC cm d3[x - 1]! d3[pv]!) = true → CallsH Try.prog 82 #[slV b n c, .int .i64 x, .int .i64 y, .int .i64 pv, f] g5 (?KK : Value → Heap → Prop) ⟨⟩) → _) (fun hc => ?rest)
            case' main =>
              by_cases hx0 : 0 < x
              · have s6 := s5
                have r1 := s5.get (i := x - 1) (by omega)
                have r2 := s5.get (i := pv) (by omega)
                have ex : ((x : Int) - 1).toNat = x - 1 := by omega
                unfold slV at key ⊢
                simp (disch := omega) [r1.1, r2.1, ex]
                refine hf _ _ _ _ s6.mod ?_
                by_cases hl : cm d3[x - 1]! d3[pv]! < 0
                · have hlt : ltC cm d3[x - 1]! d3[pv]! = true := decide_eq_true hl
                  simp (disch := omega) [hl]
                  exact key (by rw [hlt]; simp)
                · have hlt : ltC cm d3[x - 1]! d3[pv]! = false := decide_eq_false hl
                  simp (disch := omega) [hl]
                  refine peqC_c (x := x) hf hone s5 hn hpx hpy hy fun g7 mid s7 hm1 hm2 hm3 => ?_
                  have hE2 := hE (by rw [hlt]; simp; omega)
                  generalize partitionEqual (ltC cm) d3 x y pv = r at s7 hm1 hE2
                  obtain ⟨md, d4⟩ := r
                  dsimp only at s7 hm1 hE2
                  rw [hm1] at hm2 hm3 ⊢
                  rw [dif_pos ⟨hm2, hm3⟩] at hE2
                  exact hX (md, y, l1, wb, wp, d4) _ _ _ _ _ _ rfl rfl rfl rfl rfl ⟨s7, hm3, hy, by dsimp only; omega, hl1, hE2.symm⟩ (by dsimp only; omega)
              · simp (disch := omega)
                exact key (by simp; omega)
            case' rest =>
              have ht4 := hR hc
              clear hE hR
              refine prtC_c hf hone s5 hn hpx hpy hy fun g7 mid ap s7 hm1 hm2 hm3 hm4 => ?_
              rw [hpr] at s7 hm1 hm2
              dsimp only at s7 hm1 hm2
              rw [hm1] at hm3 hm4 ⊢
              rw [hm2]
              rw [if_pos ⟨hm3, hm4⟩] at ht4
              simp (disch := omega)
              refine Split.mk (fun hs => ?_) (fun hs => ?_)
              · have hlr : mid0 - x < y - mid0 := by omega
                rw [if_pos hlr] at ht4
                by_cases hq : mid0 - x ≥ (y - x) / 8
                · rw [decide_eq_true hq] at ht4
                  simp (disch := omega)
                  refine ih (mid0 - x) (by omega) (Nat.le_refl _) s7 hm3 (by omega) hl1 fun g8 s8 => ?_
                  simp (disch := omega)
                  exact hX (mid0 + 1, y, l1, true, ap0, _) _ _ _ _ _ _ (by simp) rfl rfl rfl rfl ⟨s8, by dsimp only; omega, hy, by dsimp only; omega, hl1, ht4.symm⟩ (by dsimp only; omega)
                · rw [decide_eq_false hq] at ht4
                  simp (disch := omega)
                  refine ih (mid0 - x) (by omega) (Nat.le_refl _) s7 hm3 (by omega) hl1 fun g8 s8 => ?_
                  simp (disch := omega)
                  exact hX (mid0 + 1, y, l1, false, ap0, _) _ _ _ _ _ _ (by simp) rfl rfl rfl rfl ⟨s8, by dsimp only; omega, hy, by dsimp only; omega, hl1, ht4.symm⟩ (by dsimp only; omega)
              · have hlr : ¬ mid0 - x < y - mid0 := by omega
                rw [if_neg hlr] at ht4
                by_cases hq : y - mid0 ≥ (y - x) / 8
                · rw [decide_eq_true hq] at ht4
                  simp (disch := omega)
                  refine ih (y - (mid0 + 1)) (by omega) (x := mid0 + 1) (Nat.le_refl _) s7 (by omega) hy hl1 fun g8 s8 => ?_
                  exact hX (x, mid0, l1, true, ap0, _) _ _ _ _ _ _ rfl rfl rfl rfl rfl ⟨s8, hm3, by dsimp only; omega, by dsimp only; omega, hl1, ht4.symm⟩ (by dsimp only; omega)
                · rw [decide_eq_false hq] at ht4
                  simp (disch := omega)
                  refine ih (y - (mid0 + 1)) (by omega) (x := mid0 + 1) (Nat.le_refl _) s7 (by omega) hy hl1 fun g8 s8 => ?_
                  exact hX (x, mid0, l1, false, ap0, _) _ _ _ _ _ _ rfl rfl rfl rfl rfl ⟨s8, hm3, by dsimp only; omega, by dsimp only; omega, hl1, ht4.symm⟩ (by dsimp only; omega)

set_option maxHeartbeats 4000000 in
theorem pdqO_c (hf : LessOk Try.prog 63 val cm) (hone : ∀ x, one (val x) = true) (hn : n < 100000) : ∀ (N : Nat) {K : Value → Heap → Prop} {h : Heap} {d : Array α} {x y lim : Nat}, y - x ≤ N → SA 3 b n c val h0 h d → x ≤ y → y ≤ n → lim < 100000 → (∀ h', SA 3 b n c val h0 h' (pdq (ltC cm) d x y lim true true) → K (.tuple #[]) h') →
    CallsH Try.prog 52 #[slV b n c, .int .i64 x, .int .i64 y, .int .i64 lim] h K ⟨⟩ := by
  intro N
  induction N using Nat.strongRecOn with
  | _ N ih =>
  intro K h d x y lim hN s hxy hy hlim H
  refine n52_calls ?_
  unfold n52
  refine loopX5 (α := Nat × Nat × Nat × Bool × Bool × Array α) (fun a => .int .i64 a.1) (fun a => .int .i64 a.2.1) (fun a => .int .i64 a.2.2.1) (fun a => .bool a.2.2.2.1) (fun a => .bool a.2.2.2.2.1) (fun a g => SA 3 b n c val h0 g a.2.2.2.2.2 ∧ a.1 ≤ a.2.1 ∧ a.2.1 ≤ n ∧ a.2.1 - a.1 ≤ N ∧ a.2.2.1 < 100000 ∧ pdq (ltC cm) a.2.2.2.2.2 a.1 a.2.1 a.2.2.1 a.2.2.2.1 a.2.2.2.2.1 = pdq (ltC cm) d x y lim true true) (fun a => a.2.1 - a.1) (x, y, lim, true, true, d) ⟨rfl, rfl, rfl, rfl, rfl⟩ ⟨s, hxy, hy, hN, hlim, rfl⟩ ?_
  generalize pdq (ltC cm) d x y lim true true = T at H ⊢
  clear s hxy hy hN hlim
  rintro ⟨x, y, lim, wb, wp, d⟩ g ⟨s, hxy, hy, hN, hlim, ht⟩ X hX
  dsimp only at s hxy hy hN hlim ht hX ⊢
  refine JoinN.mk ?_
  by_cases h12 : y - x ≤ 12
  · simp (disch := omega)
    rw [pdq, if_pos h12] at ht
    refine insO_c hf hone s hn hxy hy fun g1 s1 => ?_
    exact H _ (ht ▸ s1)
  · by_cases hl0 : lim = 0
    · simp (disch := omega)
      rw [pdq, if_neg h12, if_pos hl0] at ht
      refine heapO_c hf hone s hn (by omega) hy fun g1 s1 => ?_
      exact H _ (ht ▸ s1)
    · obtain ⟨d1, e1⟩ : ∃ d1, d1 = if !wb then breakPatterns d x y else d := ⟨_, rfl⟩
      obtain ⟨l1, e2⟩ : ∃ l1, l1 = if !wb then lim - 1 else lim := ⟨_, rfl⟩
      obtain ⟨cc, ec⟩ : ∃ cc, cc = choosePivot (ltC cm) d1 x y := ⟨_, rfl⟩
      obtain ⟨d2, e3⟩ : ∃ d2, d2 = if cc.2 = .decreasing then reverseRange d1 x y else d1 := ⟨_, rfl⟩
      obtain ⟨pv, e4⟩ : ∃ pv, pv = if cc.2 = .decreasing then (y - 1) - (cc.1 - x) else cc.1 := ⟨_, rfl⟩
      obtain ⟨hint, e5⟩ : ∃ hint, hint = if cc.2 = .decreasing then Hint.increasing else cc.2 := ⟨_, rfl⟩
      have ht2 := pdq_step (lt := ltC cm) (wp := wp) h12 hl0 e1 e2 ec e3 e4 e5
      rw [ht] at ht2
      clear ht
      have hcb := choosePivot_holds (ltC cm) d1 x y (by omega)
      rw [← ec] at hcb
      have hpx : x ≤ pv := by rw [e4]; split <;> omega
      have hpy : pv < y := by rw [e4]; split <;> omega
      have hl1 : l1 < 100000 := by rw [e2]; split <;> omega
      simp (disch := omega)
      refine JoinN_in1 (fun w g' => w = .int .i64 l1 ∧ SA 3 b n c val h0 g' d1) (fun kk hkk => ?_) (fun w g1 hw => ?_)
      · cases wb with
        | true =>
          simp (disch := omega)
          refine hkk _ _ ⟨?_, ?_⟩
          · rw [e2]; rfl
          · rw [e1]; exact s
        | false =>
          simp (disch := omega)
          refine brkO_c hone s hn (by omega) hy fun g1 s1 => ?_
          simp (disch := omega)
          refine hkk _ _ ⟨?_, ?_⟩
          · rw [e2]; simp; omega
          · rw [e1]; exact s1
      · obtain ⟨rfl, s1⟩ := hw
        refine pivO_c hf s1 hn (by omega) hy fun g2 s2 => ?_
        rw [← ec]
        simp (disch := omega)
        refine JoinN_in2 (fun w1 w2 g' => w1 = .int .i64 pv ∧ w2 = .int .i64 (hintV hint) ∧ SA 3 b n c val h0 g' d2) (fun kk hkk => ?_) (fun w1 w2 g3 hw => ?_)
        · by_cases hdc : cc.2 = .decreasing
          · rw [if_pos hdc] at e3 e4 e5
            rw [hdc]
            simp (disch := omega) [hintV]
            refine revO_c hf hone s2 hn (by omega) hy fun g3 s3 => ?_
            simp (disch := omega)
            refine hkk _ _ _ ⟨?_, ?_, ?_⟩
            · rw [e4]; congr 1; omega
            · rw [e5]; rfl
            · rw [e3]; exact s3
          · rw [if_neg hdc] at e3 e4 e5
            have h2 : hintV cc.2 ≠ 2 := by
              intro e
              cases hcc : cc.2 <;> rw [hcc] at e hdc <;> first | exact hdc rfl | (simp [hintV] at e)
            simp (disch := omega) [h2]
            refine hkk _ _ _ ⟨?_, ?_, ?_⟩
            · rw [e4]
            · rw [e5]
            · rw [e3]; exact s2
        · obtain ⟨rfl, rfl, s3⟩ := hw
          refine JoinN_in0 (fun g' => ∃ d3, SA 3 b n c val h0 g' d3 ∧ T = pdqR (ltC cm) x y l1 pv wb wp d3) (fun kk hkk => ?_) (fun g5 hw => ?_)
          · by_cases hb : (wb && wp && decide (hint = .increasing)) = true
            · rw [if_pos hb] at ht2
              simp at hb
              obtain ⟨⟨hb1, hb2⟩, hb3⟩ := hb
              rw [hb3, hb1, hb2]
              simp (disch := omega) [hintV]
              refine partO_c hf hone s3 hn (by omega) hy fun g4 s4 => ?_
              generalize partialInsertionSort (ltC cm) d2 x y = r at ht2 s4 ⊢
              obtain ⟨rd, rb⟩ := r
              cases rb with
              | true =>
                simp (disch := omega)
                exact H _ (ht2 ▸ s4)
              | false =>
                simp (disch := omega)
                refine hkk _ ⟨rd, s4, ?_⟩
                rw [ht2, hb1, hb2]
                rfl
            · rw [if_neg hb] at ht2
              have hsk : kk g3 := hkk _ ⟨d2, s3, by rw [ht2]; rfl⟩
              cases wb with
              | false => simp (disch := omega); exact hsk
              | true =>
                cases wp with
                | false => simp (disch := omega); exact hsk
                | true =>
                  have h1 : hintV hint ≠ 1 := by
                    intro e
                    cases hint <;> first | exact hb rfl | (simp [hintV] at e)
                  simp (disch := omega) [h1]
                  exact hsk
          · obtain ⟨d3, s5, ht3⟩ := hw
            clear ht2
            obtain ⟨mid0, ap0, d40, hpr⟩ : ∃ m q z, partition (ltC cm) d3 x y pv = (m, q, z) := ⟨_, _, _, rfl⟩
            have hR : ¬ (decide (x > 0) && !ltC cm d3[x - 1]! d3[pv]!) = true → T = (if x ≤ mid0 ∧ mid0 < y then (if mid0 - x < y - mid0 then pdq (ltC cm) (pdq (ltC cm) d40 x mid0 l1 true true) (mid0 + 1) y l1 (decide (mid0 - x ≥ (y - x) / 8)) ap0 else pdq (ltC cm) (pdq (ltC cm) d40 (mid0 + 1) y l1 true true) x mid0 l1 (decide (y - mid0 ≥ (y - x) / 8)) ap0) else d40) := fun hc => by
              rw [ht3]
              unfold pdqR
              rw [if_neg hc, hpr]
              rfl
            have hE : (decide (x > 0) && !ltC cm d3[x - 1]! d3[pv]!) = true → T = (match partitionEqual (ltC cm) d3 x y pv with | (mid, d4) => if _h : x < mid ∧ mid ≤ y then pdq (ltC cm) d4 mid y l1 wb wp else d4) := fun hc => by
              rw [ht3]
              unfold pdqR
              rw [if_pos hc]
            refine (fun key => ?main : (¬ (decide (x > 0) && !ltC cm d3[x - 1]! d3[pv]!) = true → CallsH Try.prog 65 #[slV b n c, .int .i64 x, .int .i64 y, .int .i64 pv] g5 (?KK : Value → Heap → Prop) ⟨⟩) → _) (fun hc => ?rest)
            case' main =>
              by_cases hx0 : 0 < x
              · have s6 := s5
                have r1 := s5.get (i := x - 1) (by omega)
                have r2 := s5.get (i := pv) (by omega)
                have ex : ((x : Int) - 1).toNat = x - 1 := by omega
                unfold slV at key ⊢
                simp (disch := omega) [r1.1, r2.1, ex]
                refine hf _ _ _ _ ?_
                by_cases hl : cm d3[x - 1]! d3[pv]! < 0
                · have hlt : ltC cm d3[x - 1]! d3[pv]! = true := decide_eq_true hl
                  simp (disch := omega) [hl]
                  exact key (by rw [hlt]; simp)
                · have hlt : ltC cm d3[x - 1]! d3[pv]! = false := decide_eq_false hl
                  simp (disch := omega) [hl]
                  refine peqO_c (x := x) hf hone s5 hn hpx hpy hy fun g7 mid s7 hm1 hm2 hm3 => ?_
                  have hE2 := hE (by rw [hlt]; simp; omega)
                  generalize partitionEqual (ltC cm) d3 x y pv = r at s7 hm1 hE2
                  obtain ⟨md, d4⟩ := r
                  dsimp only at s7 hm1 hE2
                  rw [hm1] at hm2 hm3 ⊢
                  rw [dif_pos ⟨hm2, hm3⟩] at hE2
                  exact hX (md, y, l1, wb, wp, d4) _ _ _ _ _ _ rfl rfl rfl rfl rfl ⟨s7, hm3, hy, by dsimp only; omega, hl1, hE2.symm⟩ (by dsimp only; omega)
              · simp (disch := omega)
                exact key (by simp; omega)
            case' rest =>
              have ht4 := hR hc
              clear hE hR
              refine prtO_c hf hone s5 hn hpx hpy hy fun g7 mid ap s7 hm1 hm2 hm3 hm4 => ?_
              rw [hpr] at s7 hm1 hm2
              dsimp only at s7 hm1 hm2
              rw [hm1] at hm3 hm4 ⊢
              rw [hm2]
              rw [if_pos ⟨hm3, hm4⟩] at ht4
              simp (disch := omega)
              refine Split.mk (fun hs => ?_) (fun hs => ?_)
              · have hlr : mid0 - x < y - mid0 := by omega
                rw [if_pos hlr] at ht4
                by_cases hq : mid0 - x ≥ (y - x) / 8
                · rw [decide_eq_true hq] at ht4
                  simp (disch := omega)
                  refine ih (mid0 - x) (by omega) (Nat.le_refl _) s7 hm3 (by omega) hl1 fun g8 s8 => ?_
                  simp (disch := omega)
                  exact hX (mid0 + 1, y, l1, true, ap0, _) _ _ _ _ _ _ (by simp) rfl rfl rfl rfl ⟨s8, by dsimp only; omega, hy, by dsimp only; omega, hl1, ht4.symm⟩ (by dsimp only; omega)
                · rw [decide_eq_false hq] at ht4
                  simp (disch := omega)
                  refine ih (mid0 - x) (by omega) (Nat.le_refl _) s7 hm3 (by omega) hl1 fun g8 s8 => ?_
                  simp (disch := omega)
                  exact hX (mid0 + 1, y, l1, false, ap0, _) _ _ _ _ _ _ (by simp) rfl rfl rfl rfl ⟨s8, by dsimp only; omega, hy, by dsimp only; omega, hl1, ht4.symm⟩ (by dsimp only; omega)
              · have hlr : ¬ mid0 - x < y - mid0 := by omega
                rw [if_neg hlr] at ht4
                by_cases hq : y - mid0 ≥ (y - x) / 8
                · rw [decide_eq_true hq] at ht4
                  simp (disch := omega)
                  refine ih (y - (mid0 + 1)) (by omega) (x := mid0 + 1) (Nat.le_refl _) s7 (by omega) hy hl1 fun g8 s8 => ?_
                  exact hX (x, mid0, l1, true, ap0, _) _ _ _ _ _ _ rfl rfl rfl rfl rfl ⟨s8, hm3, by dsimp only; omega, by dsimp only; omega, hl1, ht4.symm⟩ (by dsimp only; omega)
                · rw [decide_eq_false hq] at ht4
                  simp (disch := omega)
                  refine ih (y - (mid0 + 1)) (by omega) (x := mid0 + 1) (Nat.le_refl _) s7 (by omega) hy hl1 fun g8 s8 => ?_
                  exact hX (x, mid0, l1, false, ap0, _) _ _ _ _ _ _ rfl rfl rfl rfl rfl ⟨s8, hm3, by dsimp only; omega, by dsimp only; omega, hl1, ht4.symm⟩ (by dsimp only; omega)
end
end Go.Proofs.Ytlligpgjkmfhpaa
