/- Locks: container/heap over a line. -/
import Derived.Test.YtlligpgjkmfhpaaLock5
set_option linter.unusedSimpArgs false
set_option linter.unusedVariables false
namespace Go.Proofs.Ytlligpgjkmfhpaa
open Go.Vc
variable {K : Value → Heap → Prop} {h : Heap}

def tkO (W : List Rb) (i : Nat) : Int := match W[i]? with | some x => x.r.tk | none => 0
theorem tkO_get {W : List Rb} {i : Nat} (hi : i < W.length) : tkO W i = W[i].r.tk := by unfold tkO; rw [List.getElem?_eq_getElem hi]
theorem swapL_get {W : List Rb} {i j k : Nat} (hi : i < W.length) (hj : j < W.length) : (swapL W i j)[k]? = if k = j then W[i]? else if k = i then W[j]? else W[k]? := by
  rw [swapL_eq hi hj, List.getElem?_set, List.getElem?_set]
  by_cases e1 : j = k
  · subst e1
    simp [hj, hi]
  · rw [if_neg e1, if_neg (Ne.symm e1)]
    by_cases e2 : i = k
    · subst e2; simp [hi, hj]
    · rw [if_neg e2, if_neg (Ne.symm e2)]
theorem tkO_swap {W : List Rb} {i j k : Nat} (hi : i < W.length) (hj : j < W.length) : tkO (swapL W i j) k = if k = j then tkO W i else if k = i then tkO W j else tkO W k := by
  unfold tkO
  rw [swapL_get hi hj]
  by_cases e1 : k = j
  · rw [if_pos e1, if_pos e1]
  · rw [if_neg e1, if_neg e1]
    by_cases e2 : k = i
    · rw [if_pos e2, if_pos e2]
    · rw [if_neg e2, if_neg e2]
theorem swapL_perm {W : List Rb} {i j : Nat} (hi : i < W.length) (hj : j < W.length) : (swapL W i j).Perm W := by
  rw [swapL_eq hi hj]
  exact List.set_set_perm hi hj
/-- A heap, as far as n. -/
def HOk (W : List Rb) (n : Nat) : Prop := ∀ i, 0 < i → i < n → tkO W ((i - 1) / 2) ≤ tkO W i
/-- A heap but for place i and its children. -/
def DownI (W : List Rb) (n i : Nat) : Prop :=
  (∀ k, 0 < k → k < n → (k - 1) / 2 ≠ i → tkO W ((k - 1) / 2) ≤ tkO W k) ∧ (0 < i → ∀ k, 0 < k → k < n → (k - 1) / 2 = i → tkO W ((i - 1) / 2) ≤ tkO W k)
theorem DownI.step {W : List Rb} {n i j : Nat} (d : DownI W n i) (hj : j < n) (hjW : n ≤ W.length) (j0 : 0 < j) (hji : (j - 1) / 2 = i) (hlt : tkO W j < tkO W i) (hmin : ∀ k, 0 < k → k < n → (k - 1) / 2 = i → tkO W j ≤ tkO W k) : DownI (swapL W i j) n j := by
  have hi : i < W.length := by omega
  have hj' : j < W.length := by omega
  have hij : i ≠ j := by omega
  refine ⟨fun k k0 kn hk => ?_, fun _ k k0 kn hk => ?_⟩
  · rw [tkO_swap hi hj', tkO_swap hi hj']
    rw [if_neg hk]
    by_cases e1 : k = j
    · subst e1
      rw [if_pos rfl, if_pos hji]
      omega
    · rw [if_neg e1]
      by_cases e2 : (k - 1) / 2 = i
      · rw [if_pos e2]
        rw [if_neg (by omega)]
        exact hmin k k0 kn e2
      · rw [if_neg e2]
        by_cases e3 : k = i
        · rw [if_pos e3]
          subst e3
          exact d.2 k0 j j0 hj hji
        · rw [if_neg e3]
          exact d.1 k k0 kn e2
  · rw [tkO_swap hi hj', tkO_swap hi hj', if_neg (by omega), if_pos hji, if_neg (by omega), if_neg (by omega)]
    have := d.1 k k0 kn (by omega)
    rw [hk] at this
    exact this
theorem DownI.done {W : List Rb} {n i : Nat} (d : DownI W n i) (hc : ∀ k, 0 < k → k < n → (k - 1) / 2 = i → tkO W i ≤ tkO W k) : HOk W n := fun k k0 kn => by
  by_cases e : (k - 1) / 2 = i
  · rw [e]; exact hc k k0 kn e
  · exact d.1 k k0 kn e

set_option maxHeartbeats 2000000 in
theorem down_c {p n : Nat} {A B v : Value} {W : List Rb} (s : LnAt h p A B v W) (hn : n ≤ W.length) (hd : DownI W n 0)
    (H : ∀ W' b h', LnAt h' p A B v W' → W'.Perm W → (∀ k, n ≤ k → W'[k]? = W[k]?) → HOk W' n → Mod (fun b => blkV v = some b) h h' → K (.bool b) h') :
    CallsH Try.prog 49 #[lineV p, .int .i64 (0 : Int), .int .i64 n] h K ⟨⟩ := by
  refine n49_calls ?_
  unfold n49
  have hfew := s.few
  refine JoinN_in1 (fun w g => ∃ (i : Nat) (W' : List Rb), w = .int .i64 i ∧ i < 1000000 ∧ LnAt g p A B v W' ∧ W'.Perm W ∧ (∀ k, n ≤ k → W'[k]? = W[k]?) ∧ HOk W' n ∧ Mod (fun b => blkV v = some b) h g) (fun kk hkk => ?_) (fun w g hx => ?_)
  · refine JoinN.mk ?_
    refine loopA1 (α := Nat × List Rb) (fun a => .int .i64 a.1) (fun a g => LnAt g p A B v a.2 ∧ a.2.Perm W ∧ (∀ k, n ≤ k → a.2[k]? = W[k]?) ∧ DownI a.2 n a.1 ∧ Mod (fun b => blkV v = some b) h g ∧ a.1 < 100000) (fun a => n - a.1) (0, W) rfl ⟨s, .refl _, fun _ _ => rfl, hd, .refl _ _, by simp⟩ ?_
    rintro ⟨i, W1⟩ g ⟨s1, hp, hk, hdn, hm, hi⟩
    dsimp only at s1 hp hk hdn hi ⊢
    have hl1 := hp.length_eq
    have stop : (∀ k, 0 < k → k < n → (k - 1) / 2 = i → tkO W1 i ≤ tkO W1 k) → kk (.int .i64 i) g := fun hc => hkk _ _ ⟨i, W1, rfl, by omega, s1, hp, hk, hdn.done hc, hm⟩
    have step : ∀ (j : Nat) (g' : Heap), j < n → 0 < j → (j - 1) / 2 = i → tkO W1 j < tkO W1 i → (∀ k, 0 < k → k < n → (k - 1) / 2 = i → tkO W1 j ≤ tkO W1 k) → LnAt g' p A B v (swapL W1 i j) → Mod (fun b => blkV v = some b) g g' →
        ∃ a' : Nat × List Rb, (Value.int .i64 (j : Int)) = .int .i64 a'.1 ∧ (LnAt g' p A B v a'.2 ∧ a'.2.Perm W ∧ (∀ k, n ≤ k → a'.2[k]? = W[k]?) ∧ DownI a'.2 n a'.1 ∧ Mod (fun b => blkV v = some b) h g' ∧ a'.1 < 100000) ∧ n - a'.1 < n - i := by
      intro j g' j1 j2 j3 j4 j5 s2 m2
      refine ⟨(j, swapL W1 i j), rfl, ⟨s2, (swapL_perm (by omega) (by omega)).trans hp, fun k hkn => ?_, hdn.step j1 (by omega) j2 j3 j4 j5, hm.trans m2 (fun _ _ e => e), by dsimp only; omega⟩, by dsimp only; omega⟩
      dsimp only
      rw [swapL_get (by omega) (by omega), if_neg (by omega), if_neg (by omega)]
      exact hk k hkn
    by_cases h1 : n ≤ 2 * i + 1
    · simp (disch := omega)
      exact stop (fun k k0 kn e => by omega)
    · have e1 : (2 * (i : Int) + 1) = ((2 * i + 1 : Nat) : Int) := by omega
      simp (disch := omega)
      refine JoinN_in1 (fun w g' => g' = g ∧ ∃ j : Nat, w = .int .i64 j ∧ j < n ∧ 0 < j ∧ (j - 1) / 2 = i ∧ ∀ k, 0 < k → k < n → (k - 1) / 2 = i → tkO W1 j ≤ tkO W1 k) (fun k4 hk4 => ?_) (fun w g' hw => ?_)
      · by_cases h2 : 2 * i + 2 < n
        · simp (disch := omega)
          have a1 : (2 * (i : Int) + 1 + 1) = ((2 * i + 2 : Nat) : Int) := by omega
          rw [a1, e1]
          refine lineLess_c s1 (i := 2 * i + 2) (j := 2 * i + 1) (by omega) (by omega) ?_
          rw [← tkO_get, ← tkO_get]
          by_cases hlt : tkO W1 (2 * i + 2) < tkO W1 (2 * i + 1)
          · rw [decide_eq_true hlt]
            simp (disch := omega)
            refine hk4 _ _ ⟨rfl, 2 * i + 2, congrArg (Value.int .i64) (by omega), by omega, by omega, by omega, fun k k0 kn hk' => ?_⟩
            have : k = 2 * i + 1 ∨ k = 2 * i + 2 := by omega
            rcases this with rfl | rfl <;> omega
          · rw [decide_eq_false hlt]
            simp (disch := omega)
            refine hk4 _ _ ⟨rfl, 2 * i + 1, congrArg (Value.int .i64) (by omega), by omega, by omega, by omega, fun k k0 kn hk' => ?_⟩
            have : k = 2 * i + 1 ∨ k = 2 * i + 2 := by omega
            rcases this with rfl | rfl <;> omega
        · simp (disch := omega)
          refine hk4 _ _ ⟨rfl, 2 * i + 1, congrArg (Value.int .i64) (by omega), by omega, by omega, by omega, fun k k0 kn hk' => ?_⟩
          have : k = 2 * i + 1 := by omega
          subst this; omega
      · obtain ⟨rfl, j, rfl, j1, j2, j3, j4⟩ := hw
        refine lineLess_c s1 (i := j) (j := i) (by omega) (by omega) ?_
        rw [← tkO_get, ← tkO_get]
        by_cases hlt : tkO W1 j < tkO W1 i
        · rw [decide_eq_true hlt]
          simp (disch := omega)
          refine lineSwap_c s1 (i := i) (j := j) (by omega) (by omega) fun g2 s2 m2 => ?_
          exact step j g2 j1 j2 j3 hlt j4 s2 m2
        · rw [decide_eq_false hlt]
          simp (disch := omega)
          exact stop fun k k0 kn hk' => by have := j4 k k0 kn hk'; omega
  · obtain ⟨i, W', rfl, hi, s1, hp, hk, ho, hm⟩ := hx
    simp (disch := omega)
    refine Split.mk (fun e => ?_) (fun e => ?_)
    · exact H W' true g s1 hp hk ho hm
    · exact H W' false g s1 hp hk ho hm

/-- The first one off a heap. -/
theorem heapPop_c {p : Nat} {A B v : Value} {W : List Rb} (s : LnAt h p A B v W) (hW : W ≠ []) (ho : HOk W W.length)
    (H : ∀ x W' v' h', (x :: W').Perm W → (∀ y ∈ W, x.r.tk ≤ y.r.tk) → HOk W' W'.length → LnAt h' p A B v' W' → Mod (fun b => b = p ∨ blkV v = some b) h h' → (∀ b, blkV v' = some b → blkV v = some b) → K (.iface lnT (ptrV x.b)) h') :
    CallsH Try.prog 51 #[lineV p] h K ⟨⟩ := by
  refine n51_calls ?_
  unfold n51
  have hfew := s.few
  have hlen : 0 < W.length := List.length_pos_iff.2 hW
  refine lineLen_c s ?_
  have e1 : ((W.length : Int) - 1) = ((W.length - 1 : Nat) : Int) := by omega
  simp (disch := omega)
  rw [e1]
  refine lineSwap_c s (i := 0) (j := W.length - 1) (by omega) (by omega) fun h1 s1 m1 => ?_
  have l1 := swapL_len W 0 (W.length - 1)
  have hd : DownI (swapL W 0 (W.length - 1)) (W.length - 1) 0 := by
    refine ⟨fun k k0 kn hk => ?_, fun x => absurd x (by omega)⟩
    rw [tkO_swap (by omega) (by omega), tkO_swap (by omega) (by omega), if_neg (by omega), if_neg hk, if_neg (by omega), if_neg (by omega)]
    exact ho k k0 (by omega)
  refine down_c s1 (by omega) hd fun W1 b h2 s2 hp2 hk2 ho2 m2 => ?_
  have l2 := hp2.length_eq
  have hlast : W1[W.length - 1]? = W[0]? := by
    rw [hk2 _ (Nat.le_refl _), swapL_get (by omega) (by omega), if_pos rfl]
  have hsplit : W1 = W1.take (W.length - 1) ++ [W[0]] := by
    have h3 : W1[W.length - 1]'(by omega) = W[0] := by
      have := hlast
      rw [List.getElem?_eq_getElem (by omega), List.getElem?_eq_getElem (by omega)] at this
      exact Option.some.inj this
    conv => lhs; rw [← List.take_append_drop (W.length - 1) W1]
    congr 1
    rw [List.drop_eq_getElem_cons (by omega), h3]
    congr 1
    exact List.drop_eq_nil_of_le (by omega)
  rw [hsplit] at s2
  refine linePop_c s2 fun v' h3 s3 m3 hb => ?_
  have hperm : (W[0] :: W1.take (W.length - 1)).Perm W := by
    refine ((List.perm_append_singleton W[0] (W1.take (W.length - 1))).symm.trans ?_)
    rw [← hsplit]
    exact hp2.trans (swapL_perm (by omega) (by omega))
  have hmin : ∀ i, i < W.length → tkO W 0 ≤ tkO W i := by
    intro i
    induction i using Nat.strongRecOn with
    | _ i ih =>
      intro hi
      rcases Nat.eq_zero_or_pos i with rfl | h0
      · exact Int.le_refl _
      · have := ih ((i - 1) / 2) (by omega) (by omega)
        have := ho i h0 hi
        omega
  refine H W[0] (W1.take (W.length - 1)) v' h3 hperm (fun y hy => ?_) (fun i i0 hi => ?_) s3 (((m1.mono (fun _ _ e => .inr e)).trans m2 (fun _ _ e => .inr e)).trans m3 (fun _ _ e => .inl e)) hb
  · obtain ⟨i, hi, rfl⟩ := List.getElem_of_mem hy
    have := hmin i hi
    rw [tkO_get hlen, tkO_get hi] at this
    exact this
  · simp at hi
    have := ho2 i i0 (by omega)
    unfold tkO at this ⊢
    rw [List.getElem?_take, List.getElem?_take, if_pos (by omega), if_pos (by omega)]
    exact this

/-- One more, behind all others. -/
theorem heapPush_c {p : Nat} {A B v : Value} {W : List Rb} {x : Rb} (s : LnAt h p A B v W) (hx : RqAt h x.b x.r) (hf : W.length + 1 < 100000) (hmax : ∀ y ∈ W, y.r.tk ≤ x.r.tk)
    (H : ∀ v' h', LnAt h' p A B v' (W ++ [x]) → Mod (fun b => b = p ∨ blkV v = some b) h h' → (∀ b, blkV v' = some b → blkV v = some b ∨ h.size ≤ b) → K (.tuple #[]) h') :
    CallsH Try.prog 30 #[lineV p, .iface lnT (ptrV x.b)] h K ⟨⟩ := by
  refine n30_calls ?_
  unfold n30
  refine linePush_c s hx hf fun v' h1 s1 m1 hb1 => ?_
  refine lineLen_c s1 ?_
  have hl : (W ++ [x]).length = W.length + 1 := by simp
  rw [hl]
  have e1 : (((W.length + 1 : Nat) : Int) - 1) = (W.length : Int) := by omega
  simp (disch := omega)
  refine n48_calls ?_
  unfold n48
  refine loopA1 (fun i : Unit => .int .i64 W.length) (fun _ g => g = h1) (fun _ => 0) () (by simp) rfl ?_
  rintro _ g rfl
  by_cases h0 : W.length = 0
  · simp (disch := omega) [h0]
    exact H _ _ s1 m1 hb1
  · simp (disch := omega)
    rw [show ((W.length : Int) - 1) / 2 = (((W.length - 1) / 2 : Nat) : Int) by omega]
    refine lineLess_c s1 (i := W.length) (j := (W.length - 1) / 2) (by simp) (by simp; omega) ?_
    have hnl : ¬ ((W ++ [x])[W.length]'(by simp)).r.tk < ((W ++ [x])[(W.length - 1) / 2]'(by simp; omega)).r.tk := by
      rw [List.getElem_append_right (Nat.le_refl _), List.getElem_append_left (by omega)]
      have := hmax _ (List.getElem_mem (show (W.length - 1) / 2 < W.length by omega))
      simp; omega
    rw [decide_eq_false hnl]
    simp (disch := omega)
    exact H _ _ s1 m1 hb1
end Go.Proofs.Ytlligpgjkmfhpaa
