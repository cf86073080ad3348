/- Locks: container/heap over a line. Locks: asking. Locks: those that can go on do. -/
import Derived.Test.YtlligpgjkmfhpaaLockB
set_option linter.unusedSimpArgs false
set_option linter.unusedVariables false
namespace Go.Proofs.Ytlligpgjkmfhpaa
open Go.Vc
variable {K : Value → Heap → Prop} {h : Heap}

def tkO (W : List Rb) (i : Nat) : Int := match W[i]? with | some x => x.r.tk | none => 0
theorem tkO_get {W : List Rb} {i : Nat} (hi : i < W.length) : tkO W i = W[i].r.tk := by unfold tkO; rw [List.getElem?_eq_getElem hi]
theorem swapL_get {W : List Rb} {i j k : Nat} (hi : i < W.length) (hj : j < W.length) : (swapL W i j)[k]? = if k = j then W[i]? else if k = i then W[j]? else W[k]? := by
  rw [swapL_eq hi hj, List.getElem?_set, List.getElem?_set]
  by_cases e1 : j = k
  · subst e1
    simp [hj, hi]
  · rw [if_neg e1, if_neg (Ne.symm e1)]
    by_cases e2 : i = k
    · subst e2; simp [hi, hj]
    · rw [if_neg e2, if_neg (Ne.symm e2)]
theorem tkO_swap {W : List Rb} {i j k : Nat} (hi : i < W.length) (hj : j < W.length) : tkO (swapL W i j) k = if k = j then tkO W i else if k = i then tkO W j else tkO W k := by
  unfold tkO
  rw [swapL_get hi hj]
  by_cases e1 : k = j
  · rw [if_pos e1, if_pos e1]
  · rw [if_neg e1, if_neg e1]
    by_cases e2 : k = i
    · rw [if_pos e2, if_pos e2]
    · rw [if_neg e2, if_neg e2]
theorem swapL_perm {W : List Rb} {i j : Nat} (hi : i < W.length) (hj : j < W.length) : (swapL W i j).Perm W := by
  rw [swapL_eq hi hj]
  exact List.set_set_perm hi hj
/-- A heap, as far as n. -/
def HOk (W : List Rb) (n : Nat) : Prop := ∀ i, 0 < i → i < n → tkO W ((i - 1) / 2) ≤ tkO W i
/-- A heap but for place i and its children. -/
def DownI (W : List Rb) (n i : Nat) : Prop :=
  (∀ k, 0 < k → k < n → (k - 1) / 2 ≠ i → tkO W ((k - 1) / 2) ≤ tkO W k) ∧ (0 < i → ∀ k, 0 < k → k < n → (k - 1) / 2 = i → tkO W ((i - 1) / 2) ≤ tkO W k)
theorem DownI.step {W : List Rb} {n i j : Nat} (d : DownI W n i) (hj : j < n) (hjW : n ≤ W.length) (j0 : 0 < j) (hji : (j - 1) / 2 = i) (hlt : tkO W j < tkO W i) (hmin : ∀ k, 0 < k → k < n → (k - 1) / 2 = i → tkO W j ≤ tkO W k) : DownI (swapL W i j) n j := by
  have hi : i < W.length := by omega
  have hj' : j < W.length := by omega
  have hij : i ≠ j := by omega
  refine ⟨fun k k0 kn hk => ?_, fun _ k k0 kn hk => ?_⟩
  · rw [tkO_swap hi hj', tkO_swap hi hj']
    rw [if_neg hk]
    by_cases e1 : k = j
    · subst e1
      rw [if_pos rfl, if_pos hji]
      omega
    · rw [if_neg e1]
      by_cases e2 : (k - 1) / 2 = i
      · rw [if_pos e2]
        rw [if_neg (by omega)]
        exact hmin k k0 kn e2
      · rw [if_neg e2]
        by_cases e3 : k = i
        · rw [if_pos e3]
          subst e3
          exact d.2 k0 j j0 hj hji
        · rw [if_neg e3]
          exact d.1 k k0 kn e2
  · rw [tkO_swap hi hj', tkO_swap hi hj', if_neg (by omega), if_pos hji, if_neg (by omega), if_neg (by omega)]
    have := d.1 k k0 kn (by omega)
    rw [hk] at this
    exact this
theorem DownI.done {W : List Rb} {n i : Nat} (d : DownI W n i) (hc : ∀ k, 0 < k → k < n → (k - 1) / 2 = i → tkO W i ≤ tkO W k) : HOk W n := fun k k0 kn => by
  by_cases e : (k - 1) / 2 = i
  · rw [e]; exact hc k k0 kn e
  · exact d.1 k k0 kn e

set_option maxHeartbeats 2000000 in
theorem down_c {p n : Nat} {A B v : Value} {W : List Rb} (s : LnAt h p A B v W) (hn : n ≤ W.length) (hd : DownI W n 0)
    (H : ∀ W' b h', LnAt h' p A B v W' → W'.Perm W → (∀ k, n ≤ k → W'[k]? = W[k]?) → HOk W' n → Mod (fun b => blkV v = some b) h h' → K (.bool b) h') :
    CallsH Try.prog 49 #[lineV p, .int .i64 (0 : Int), .int .i64 n] h K ⟨⟩ := by
  refine n49_calls ?_
  unfold n49
  have hfew := s.few
  refine JoinN_in1 (fun w g => ∃ (i : Nat) (W' : List Rb), w = .int .i64 i ∧ i < 1000000 ∧ LnAt g p A B v W' ∧ W'.Perm W ∧ (∀ k, n ≤ k → W'[k]? = W[k]?) ∧ HOk W' n ∧ Mod (fun b => blkV v = some b) h g) (fun kk hkk => ?_) (fun w g hx => ?_)
  · refine JoinN.mk ?_
    refine loopA1 (α := Nat × List Rb) (fun a => .int .i64 a.1) (fun a g => LnAt g p A B v a.2 ∧ a.2.Perm W ∧ (∀ k, n ≤ k → a.2[k]? = W[k]?) ∧ DownI a.2 n a.1 ∧ Mod (fun b => blkV v = some b) h g ∧ a.1 < 100000) (fun a => n - a.1) (0, W) rfl ⟨s, .refl _, fun _ _ => rfl, hd, .refl _ _, by simp⟩ ?_
    rintro ⟨i, W1⟩ g ⟨s1, hp, hk, hdn, hm, hi⟩
    dsimp only at s1 hp hk hdn hi ⊢
    have hl1 := hp.length_eq
    have stop : (∀ k, 0 < k → k < n → (k - 1) / 2 = i → tkO W1 i ≤ tkO W1 k) → kk (.int .i64 i) g := fun hc => hkk _ _ ⟨i, W1, rfl, by omega, s1, hp, hk, hdn.done hc, hm⟩
    have step : ∀ (j : Nat) (g' : Heap), j < n → 0 < j → (j - 1) / 2 = i → tkO W1 j < tkO W1 i → (∀ k, 0 < k → k < n → (k - 1) / 2 = i → tkO W1 j ≤ tkO W1 k) → LnAt g' p A B v (swapL W1 i j) → Mod (fun b => blkV v = some b) g g' →
        ∃ a' : Nat × List Rb, (Value.int .i64 (j : Int)) = .int .i64 a'.1 ∧ (LnAt g' p A B v a'.2 ∧ a'.2.Perm W ∧ (∀ k, n ≤ k → a'.2[k]? = W[k]?) ∧ DownI a'.2 n a'.1 ∧ Mod (fun b => blkV v = some b) h g' ∧ a'.1 < 100000) ∧ n - a'.1 < n - i := by
      intro j g' j1 j2 j3 j4 j5 s2 m2
      refine ⟨(j, swapL W1 i j), rfl, ⟨s2, (swapL_perm (by omega) (by omega)).trans hp, fun k hkn => ?_, hdn.step j1 (by omega) j2 j3 j4 j5, hm.trans m2 (fun _ _ e => e), by dsimp only; omega⟩, by dsimp only; omega⟩
      dsimp only
      rw [swapL_get (by omega) (by omega), if_neg (by omega), if_neg (by omega)]
      exact hk k hkn
    by_cases h1 : n ≤ 2 * i + 1
    · simp (disch := omega)
      exact stop (fun k k0 kn e => by omega)
    · have e1 : (2 * (i : Int) + 1) = ((2 * i + 1 : Nat) : Int) := by omega
      simp (disch := omega)
      refine JoinN_in1 (fun w g' => g' = g ∧ ∃ j : Nat, w = .int .i64 j ∧ j < n ∧ 0 < j ∧ (j - 1) / 2 = i ∧ ∀ k, 0 < k → k < n → (k - 1) / 2 = i → tkO W1 j ≤ tkO W1 k) (fun k4 hk4 => ?_) (fun w g' hw => ?_)
      · by_cases h2 : 2 * i + 2 < n
        · simp (disch := omega)
          have a1 : (2 * (i : Int) + 1 + 1) = ((2 * i + 2 : Nat) : Int) := by omega
          rw [a1, e1]
          refine lineLess_c s1 (i := 2 * i + 2) (j := 2 * i + 1) (by omega) (by omega) ?_
          rw [← tkO_get, ← tkO_get]
          by_cases hlt : tkO W1 (2 * i + 2) < tkO W1 (2 * i + 1)
          · rw [decide_eq_true hlt]
            simp (disch := omega)
            refine hk4 _ _ ⟨rfl, 2 * i + 2, congrArg (Value.int .i64) (by omega), by omega, by omega, by omega, fun k k0 kn hk' => ?_⟩
            have : k = 2 * i + 1 ∨ k = 2 * i + 2 := by omega
            rcases this with rfl | rfl <;> omega
          · rw [decide_eq_false hlt]
            simp (disch := omega)
            refine hk4 _ _ ⟨rfl, 2 * i + 1, congrArg (Value.int .i64) (by omega), by omega, by omega, by omega, fun k k0 kn hk' => ?_⟩
            have : k = 2 * i + 1 ∨ k = 2 * i + 2 := by omega
            rcases this with rfl | rfl <;> omega
        · simp (disch := omega)
          refine hk4 _ _ ⟨rfl, 2 * i + 1, congrArg (Value.int .i64) (by omega), by omega, by omega, by omega, fun k k0 kn hk' => ?_⟩
          have : k = 2 * i + 1 := by omega
          subst this; omega
      · obtain ⟨rfl, j, rfl, j1, j2, j3, j4⟩ := hw
        refine lineLess_c s1 (i := j) (j := i) (by omega) (by omega) ?_
        rw [← tkO_get, ← tkO_get]
        by_cases hlt : tkO W1 j < tkO W1 i
        · rw [decide_eq_true hlt]
          simp (disch := omega)
          refine lineSwap_c s1 (i := i) (j := j) (by omega) (by omega) fun g2 s2 m2 => ?_
          exact step j g2 j1 j2 j3 hlt j4 s2 m2
        · rw [decide_eq_false hlt]
          simp (disch := omega)
          exact stop fun k k0 kn hk' => by have := j4 k k0 kn hk'; omega
  · obtain ⟨i, W', rfl, hi, s1, hp, hk, ho, hm⟩ := hx
    simp (disch := omega)
    refine Split.mk (fun e => ?_) (fun e => ?_)
    · exact H W' true g s1 hp hk ho hm
    · exact H W' false g s1 hp hk ho hm

/-- The first one off a heap. -/
theorem heapPop_c {p : Nat} {A B v : Value} {W : List Rb} (s : LnAt h p A B v W) (hW : W ≠ []) (ho : HOk W W.length)
    (H : ∀ x W' v' h', (x :: W').Perm W → (∀ y ∈ W, x.r.tk ≤ y.r.tk) → HOk W' W'.length → LnAt h' p A B v' W' → Mod (fun b => b = p ∨ blkV v = some b) h h' → (∀ b, blkV v' = some b → blkV v = some b) → K (.iface lnT (ptrV x.b)) h') :
    CallsH Try.prog 51 #[lineV p] h K ⟨⟩ := by
  refine n51_calls ?_
  unfold n51
  have hfew := s.few
  have hlen : 0 < W.length := List.length_pos_iff.2 hW
  refine lineLen_c s ?_
  have e1 : ((W.length : Int) - 1) = ((W.length - 1 : Nat) : Int) := by omega
  simp (disch := omega)
  rw [e1]
  refine lineSwap_c s (i := 0) (j := W.length - 1) (by omega) (by omega) fun h1 s1 m1 => ?_
  have l1 := swapL_len W 0 (W.length - 1)
  have hd : DownI (swapL W 0 (W.length - 1)) (W.length - 1) 0 := by
    refine ⟨fun k k0 kn hk => ?_, fun x => absurd x (by omega)⟩
    rw [tkO_swap (by omega) (by omega), tkO_swap (by omega) (by omega), if_neg (by omega), if_neg hk, if_neg (by omega), if_neg (by omega)]
    exact ho k k0 (by omega)
  refine down_c s1 (by omega) hd fun W1 b h2 s2 hp2 hk2 ho2 m2 => ?_
  have l2 := hp2.length_eq
  have hlast : W1[W.length - 1]? = W[0]? := by
    rw [hk2 _ (Nat.le_refl _), swapL_get (by omega) (by omega), if_pos rfl]
  have hsplit : W1 = W1.take (W.length - 1) ++ [W[0]] := by
    have h3 : W1[W.length - 1]'(by omega) = W[0] := by
      have := hlast
      rw [List.getElem?_eq_getElem (by omega), List.getElem?_eq_getElem (by omega)] at this
      exact Option.some.inj this
    conv => lhs; rw [← List.take_append_drop (W.length - 1) W1]
    congr 1
    rw [List.drop_eq_getElem_cons (by omega), h3]
    congr 1
    exact List.drop_eq_nil_of_le (by omega)
  rw [hsplit] at s2
  refine linePop_c s2 fun v' h3 s3 m3 hb => ?_
  have hperm : (W[0] :: W1.take (W.length - 1)).Perm W := by
    refine ((List.perm_append_singleton W[0] (W1.take (W.length - 1))).symm.trans ?_)
    rw [← hsplit]
    exact hp2.trans (swapL_perm (by omega) (by omega))
  have hmin : ∀ i, i < W.length → tkO W 0 ≤ tkO W i := by
    intro i
    induction i using Nat.strongRecOn with
    | _ i ih =>
      intro hi
      rcases Nat.eq_zero_or_pos i with rfl | h0
      · exact Int.le_refl _
      · have := ih ((i - 1) / 2) (by omega) (by omega)
        have := ho i h0 hi
        omega
  refine H W[0] (W1.take (W.length - 1)) v' h3 hperm (fun y hy => ?_) (fun i i0 hi => ?_) s3 (((m1.mono (fun _ _ e => .inr e)).trans m2 (fun _ _ e => .inr e)).trans m3 (fun _ _ e => .inl e)) hb
  · obtain ⟨i, hi, rfl⟩ := List.getElem_of_mem hy
    have := hmin i hi
    rw [tkO_get hlen, tkO_get hi] at this
    exact this
  · simp at hi
    have := ho2 i i0 (by omega)
    unfold tkO at this ⊢
    rw [List.getElem?_take, List.getElem?_take, if_pos (by omega), if_pos (by omega)]
    exact this

/-- One more, behind all others. -/
theorem heapPush_c {p : Nat} {A B v : Value} {W : List Rb} {x : Rb} (s : LnAt h p A B v W) (hx : RqAt h x.b x.r) (hf : W.length + 1 < 100000) (hmax : ∀ y ∈ W, y.r.tk ≤ x.r.tk)
    (H : ∀ v' h', LnAt h' p A B v' (W ++ [x]) → Mod (fun b => b = p ∨ blkV v = some b) h h' → (∀ b, blkV v' = some b → blkV v = some b ∨ h.size ≤ b) → K (.tuple #[]) h') :
    CallsH Try.prog 30 #[lineV p, .iface lnT (ptrV x.b)] h K ⟨⟩ := by
  refine n30_calls ?_
  unfold n30
  refine linePush_c s hx hf fun v' h1 s1 m1 hb1 => ?_
  refine lineLen_c s1 ?_
  have hl : (W ++ [x]).length = W.length + 1 := by simp
  rw [hl]
  have e1 : (((W.length + 1 : Nat) : Int) - 1) = (W.length : Int) := by omega
  simp (disch := omega)
  refine n48_calls ?_
  unfold n48
  refine loopA1 (fun i : Unit => .int .i64 W.length) (fun _ g => g = h1) (fun _ => 0) () (by simp) rfl ?_
  rintro _ g rfl
  by_cases h0 : W.length = 0
  · simp (disch := omega) [h0]
    exact H _ _ s1 m1 hb1
  · simp (disch := omega)
    rw [show ((W.length : Int) - 1) / 2 = (((W.length - 1) / 2 : Nat) : Int) by omega]
    refine lineLess_c s1 (i := W.length) (j := (W.length - 1) / 2) (by simp) (by simp; omega) ?_
    have hnl : ¬ ((W ++ [x])[W.length]'(by simp)).r.tk < ((W ++ [x])[(W.length - 1) / 2]'(by simp; omega)).r.tk := by
      rw [List.getElem_append_right (Nat.le_refl _), List.getElem_append_left (by omega)]
      have := hmax _ (List.getElem_mem (show (W.length - 1) / 2 < W.length by omega))
      simp; omega
    rw [decide_eq_false hnl]
    simp (disch := omega)
    exact H _ _ s1 m1 hb1
end Go.Proofs.Ytlligpgjkmfhpaa
set_option linter.unusedSimpArgs false
set_option linter.unusedVariables false
namespace Go.Proofs.Ytlligpgjkmfhpaa
open Go.Vc
variable {K : Value → Heap → Prop} {h : Heap}

/-- All that holds of who may write where. -/
structure Lks (h : Heap) (p : Nat) (s : Lk) : Prop extends LkAt h p s where
  tks : ∀ x ∈ s.all, x.r.tk ≤ s.tk
  tkb : 0 ≤ s.tk ∧ s.tk < 100000
  ord : HOk s.W s.W.length
theorem Lks.ext {h' : Heap} {p : Nat} {s : Lk} (a : Lks h p s) (e : Ext h h') : Lks h' p s := ⟨a.toLkAt.ext e, a.tks, a.tkb, a.ord⟩
def foot (p : Nat) (s : Lk) (b : Nat) : Prop := b = p ∨ b = s.m ∨ blkV s.w = some b
theorem LkAt.line {p : Nat} {s : Lk} (a : LkAt h p s) : LnAt h p (.map (some s.m)) (.int .i64 s.tk) s.w s.W :=
  ⟨a.cells, a.row, fun x hx => (a.rq x (List.mem_append_right _ hx)).1.1, by have := a.few; simp [Lk.all] at this; omega⟩
/-- No request lies where the Locks lie. -/
theorem LkAt.apart {p : Nat} {s : Lk} (a : LkAt h p s) {x : Rb} {b : Nat} (hx : RqAt h x.b x.r) (hb : foot p s b) : x.b ≠ b := fun e => by
  subst e
  have hx' := hx
  unfold RqAt at hx'
  rcases hb with e | e | e
  · rw [e, a.cells] at hx'; cases hx'
  · obtain ⟨es, cl, h1, _⟩ := a.map
    rw [e, h1] at hx'; cases hx'
  · exact a.row.ne e hx lnT_ne2 rfl
theorem LkAt.footlt {p : Nat} {s : Lk} (a : LkAt h p s) {b : Nat} (hb : foot p s b) : b < h.size := by
  rcases hb with e | e | e
  · rw [e]; exact get_some_lt a.cells
  · rw [e]; exact a.map.lt
  · exact a.row.lt e
/-- What is changed elsewhere does not matter. -/
theorem Lks.mod {S : Nat → Prop} {h' : Heap} {p : Nat} {s : Lk} (a : Lks h p s) (m : Mod S h h') (hS : ∀ b, foot p s b → ¬ S b) (hr : ∀ x ∈ s.all, ¬ S x.b) : Lks h' p s :=
  ⟨⟨(m.block p (get_some_lt a.cells) (hS _ (.inl rfl))).trans a.cells, a.map.mod m (hS _ (.inr (.inl rfl))), a.row.mod m (fun b hb => hS _ (.inr (.inr hb))), fun x hx => ⟨(a.rq x hx).1.mod m (hr x hx), (a.rq x hx).2⟩, a.blks, a.keys, a.few⟩, a.tks, a.tkb, a.ord⟩

theorem New_c (H : ∀ p h', Ext h h' → Lks h' p ⟨h'.size - 2, [], [], .slice none 0 0, 0⟩ → h.size ≤ p → p = h'.size - 1 → h'.size = h.size + 2 → K (ptrV p) h') : CallsH Try.prog 8 #[] h K ⟨⟩ := by
  refine n8_calls ?_
  unfold n8
  rw [Hp_makeMap]
  simp (disch := omega)
  refine H (h.size + 1) _ (by repeat' (first | (with_reducible exact Ext.refl _) | (with_reducible assumption) | (with_reducible refine push_ext ?_) | (with_reducible refine hset_ext ?_ ?_) | (with_reducible refine Ext.trans ?_ (by assumption)) | omega | (simp; done) | (simp; omega) | (refine Ext.size ?_) | (refine Nat.le_succ_of_le (Ext.size ?_)))) ⟨⟨?_, ?_, .inl ⟨rfl, rfl⟩, fun x hx => (by cases hx), by simp [Lk.all], by simp [Lk.all], by simp [Lk.all]⟩, fun x hx => (by cases hx), by simp, fun i _ hi => absurd hi (Nat.not_lt_zero _)⟩ (by omega) (by simp) (by simp)
  · have e2 : ((h.push (.map #[] 0)).push (.cells #[.map (some h.size), .slice none 0 0, .int .i64 0] 57)).size - 2 = h.size := by simp
    rw [e2]
    exact get_pushed (by rw [Array.size_push])
  · have : MapK (κ := Int) (.int .i64) (h.push (.map #[] 0)) h.size [] := MapK.new rfl
    simp
    exact this.ext (push_ext (.refl _))

def rqOf (id a l : Int) (al : Bool) (tk : Int) : Rq := ⟨id, a, l, al, tk⟩
theorem find_none {s : Lk} {n : Int} (hf : findS s n = none) : ∀ x ∈ s.all, x.key ≠ n := by
  unfold findS at hf
  split at hf
  · cases hf
  · rename_i h1
    split at hf
    · cases hf
    · rename_i h2
      intro x hx
      rcases List.mem_append.1 hx with e | e
      · have := List.find?_eq_none.1 h1 x e; simpa using this
      · have := List.find?_eq_none.1 h2 x e; simpa using this
theorem upd_mapL {n : Int} {v : Value} {H : List Rb} (hn : ∀ x ∈ H, x.key ≠ n) : upd n v (mapL H) = mapL H ++ [(n, v)] := by
  refine push_upd (j := 0) ?_
  have := findK_look n (mapL H) 0
  rw [look_mapL] at this
  have h2 : H.find? (fun x => decide (x.key = n)) = none := List.find?_eq_none.2 fun x hx => by simpa using hn x hx
  rw [h2] at this
  cases hk : findK n (mapL H) 0 with
  | none => rfl
  | some y => rw [hk] at this; cases this

theorem perm_H {s : Lk} {x : Rb} {t : Int} : (({ s with H := s.H ++ [x], tk := t } : Lk).all).Perm (x :: s.all) := by
  unfold Lk.all
  simp only [List.append_assoc, List.singleton_append]
  exact List.perm_middle
theorem perm_W {s : Lk} {x : Rb} {w : Value} {t : Int} : (({ s with W := s.W ++ [x], w := w, tk := t } : Lk).all).Perm (x :: s.all) := by
  unfold Lk.all
  simp only [← List.append_assoc]
  exact List.perm_append_singleton _ _
theorem grown {s : Lk} {L : List Rb} {x : Rb} {t : Int} (hp : L.Perm (x :: s.all)) (old : ∀ y ∈ s.all, RbAt h y ∧ y.key = y.r.id) (new : RbAt h x ∧ x.key = x.r.id) (hb : ∀ y ∈ s.all, x.b ≠ y.b) (hk : ∀ y ∈ s.all, y.key ≠ x.key) (ht : ∀ y ∈ s.all, y.r.tk ≤ t) (hx : x.r.tk ≤ t)
    (b : (s.all.map (·.b)).Nodup) (k : (s.all.map (·.key)).Nodup) (f : s.all.length + 1 < 100000) : (∀ y ∈ L, RbAt h y ∧ y.key = y.r.id) ∧ (L.map (·.b)).Nodup ∧ (L.map (·.key)).Nodup ∧ L.length < 100000 ∧ ∀ y ∈ L, y.r.tk ≤ t := by
  refine ⟨fun y hy => ?_, ?_, ?_, ?_, fun y hy => ?_⟩
  · rcases List.mem_cons.1 (hp.mem_iff.1 hy) with e | e
    · subst e; exact new
    · exact old y e
  · rw [(hp.map _).nodup_iff, List.map_cons, List.nodup_cons]
    refine ⟨fun hm => ?_, b⟩
    obtain ⟨y, hy, he⟩ := List.mem_map.1 hm
    exact hb y hy he.symm
  · rw [(hp.map _).nodup_iff, List.map_cons, List.nodup_cons]
    refine ⟨fun hm => ?_, k⟩
    obtain ⟨y, hy, he⟩ := List.mem_map.1 hm
    exact hk y hy he
  · have := hp.length_eq; simp at this; omega
  · rcases List.mem_cons.1 (hp.mem_iff.1 hy) with e | e
    · subst e; exact hx
    · exact ht y e

/-- A new request. -/
theorem Ask_c {p : Nat} {s : Lk} {id a l : Int} {al : Bool} (hs : Lks h p s) (hm : MayP id a l) (hf : findS s id = none) (hfew : s.all.length + 1 < 100000) (htk : s.tk + 1 < 100000)
    (H : ∀ b w' h', h.size ≤ b → Lks h' p (if couldS s ⟨id, a, l, al, s.tk + 1⟩ then { s with H := s.H ++ [⟨id, b, ⟨id, a, l, al, s.tk + 1⟩⟩], tk := s.tk + 1 } else { s with W := s.W ++ [⟨id, b, ⟨id, a, l, al, s.tk + 1⟩⟩], w := w', tk := s.tk + 1 }) →
      Mod (foot p s) h h' → (∀ b, blkV w' = some b → blkV s.w = some b ∨ h.size ≤ b) → K (.tuple #[.bool (couldS s ⟨id, a, l, al, s.tk + 1⟩), .int .i64 0]) h') :
    CallsH Try.prog 10 #[ptrV p, lockV id a l al] h K ⟨⟩ := by
  refine n10_calls ?_
  unfold n10
  have e0 : Ext h (h.push (.cells #[.int .i64 id, .int .i64 a, .int .i64 l, .bool al] 29)) := (by repeat' (first | (with_reducible exact Ext.refl _) | (with_reducible assumption) | (with_reducible refine push_ext ?_) | (with_reducible refine hset_ext ?_ ?_) | (with_reducible refine Ext.trans ?_ (by assumption)) | omega | (simp; done) | (simp; omega) | (refine Ext.size ?_) | (refine Nat.le_succ_of_le (Ext.size ?_))))
  rw [show lockV id a l al = .agg #[.int .i64 id, .int .i64 a, .int .i64 l, .bool al] from rfl]
  simp (disch := omega)
  have hs0 := hs.ext e0
  refine none_c (m := undef) hs0.cells ?_
  simp (disch := omega)
  refine may_c (id := id) (a := a) (l := l) (al := al) fun h1 e1 => ?_
  rw [decide_eq_true hm]
  have c0 : hcell (h.push (.cells #[.int .i64 id, .int .i64 a, .int .i64 l, .bool al] 29)) ⟨h.size, 0, none⟩ = some (.int .i64 id) := by simp
  have c1 : hcell (h.push (.cells #[.int .i64 id, .int .i64 a, .int .i64 l, .bool al] 29)) ⟨h.size, 1, none⟩ = some (.int .i64 a) := by simp
  have c2 : hcell (h.push (.cells #[.int .i64 id, .int .i64 a, .int .i64 l, .bool al] 29)) ⟨h.size, 2, none⟩ = some (.int .i64 l) := by simp
  have c3 : hcell (h.push (.cells #[.int .i64 id, .int .i64 a, .int .i64 l, .bool al] 29)) ⟨h.size, 3, none⟩ = some (.bool al) := by simp
  simp (disch := omega) [hcell_ext e1 c0]
  refine find_c (hs0.ext e1).toLkAt fun h2 e2 => ?_
  rw [hf]
  have E2 := e1.trans e2
  have s2 := (hs0.ext e1).ext e2
  have d2 := cellOf (i := 2) s2.cells rfl
  have f2 := frzOf (i := 2) s2.cells
  unfold findV
  have ht0 := hs.tkb
  have hpl := get_some_lt hs.cells
  have z0 : h.size < (h.push (.cells #[.int .i64 id, .int .i64 a, .int .i64 l, .bool al] 29)).size := by simp
  have B2 : h2[h.size]? = some (.cells #[.int .i64 id, .int .i64 a, .int .i64 l, .bool al] 29) := (E2.block _ z0).trans (get_pushed rfl)
  refine (⟨_, rfl⟩ : ∃ g, g = hset h2 ⟨p, 2, none⟩ (.int .i64 (s.tk + 1))).elim fun g eg => ?_
  have Mg : Mod (· = p) h2 g := by rw [eg]; exact Mod.set h2 ⟨p, 2, none⟩ _
  have gB : g[h.size]? = some (.cells #[.int .i64 id, .int .i64 a, .int .i64 l, .bool al] 29) := (Mg.block _ (get_some_lt B2) (by omega)).trans B2
  have gp : g[p]? = some (.cells #[.map (some s.m), s.w, .int .i64 (s.tk + 1)] 57) := by rw [eg]; exact obj_set s2.cells
  have b0 := cellOf (i := 0) B2 rfl
  have g0 := cellOf (i := 0) gB rfl
  have g1 := cellOf (i := 1) gB rfl
  have g2 := cellOf (i := 2) gB rfl
  have g3 := cellOf (i := 3) gB rfl
  have q2 := cellOf (i := 2) gp rfl
  unfold ptrV
  simp (disch := omega) [d2, f2, ← eg, b0, g0, g1, g2, g3, q2]
  have Rne : ∀ x ∈ s.all, x.b ≠ p := fun x hx => s2.toLkAt.apart (s2.rq x hx).1.1 (.inl rfl)
  have hgT : Lks g p { s with tk := s.tk + 1 } := by
    refine ⟨⟨gp, s2.map.mod Mg (fun e => ?_), s2.row.mod Mg (fun b hb e => s2.row.ne hb s2.cells lnT_ne e), fun x hx => ⟨(s2.rq x hx).1.mod Mg (Rne x hx), (s2.rq x hx).2⟩, s2.blks, s2.keys, s2.few⟩, fun x hx => ?_, ?_, s2.ord⟩
    · obtain ⟨es, cl, h3, _⟩ := s2.map
      rw [e, s2.cells] at h3; cases h3
    · have := s2.tks x hx
      show x.r.tk ≤ s.tk + 1
      omega
    · show 0 ≤ s.tk + 1 ∧ s.tk + 1 < 100000
      omega
  have Eg : Ext g (g.push (.cells #[.int .i64 id, .int .i64 a, .int .i64 l, .bool al, .int .i64 (s.tk + 1)] 63)) := (by repeat' (first | (with_reducible exact Ext.refl _) | (with_reducible assumption) | (with_reducible refine push_ext ?_) | (with_reducible refine hset_ext ?_ ?_) | (with_reducible refine Ext.trans ?_ (by assumption)) | omega | (simp; done) | (simp; omega) | (refine Ext.size ?_) | (refine Nat.le_succ_of_le (Ext.size ?_))))
  have hT := hgT.ext Eg
  have zg : h.size ≤ g.size := by have := Mg.size; have := E2.size; omega
  have hr : RqAt (g.push (.cells #[.int .i64 id, .int .i64 a, .int .i64 l, .bool al, .int .i64 (s.tk + 1)] 63)) g.size ⟨id, a, l, al, s.tk + 1⟩ := get_pushed rfl
  have hnb : ∀ x ∈ s.all, g.size ≠ x.b := fun x hx => by have := (hgT.rq x hx).1.1.lt; omega
  have hok : (⟨id, a, l, al, s.tk + 1⟩ : Rq).ok := ⟨hm.2.2.1, hm.2.2.2.1, by have := hm.2.2.2.2.2; show a + l ≤ _; omega⟩
  have hkn := find_none hf
  refine could_c hT.toLkAt hr hok hnb fun h4 e4 => ?_
  have M4 : Mod (foot p s) h h4 := by
    refine Mod.extIn (Mod.extIn ((Mod.of_ext (e0.trans E2)).trans Mg (fun b _ e => .inl e)) Eg) e4
  have r4 := hr.ext e4
  have T4 := hT.ext e4
  have e5 : couldS { s with tk := s.tk + 1 } ⟨id, a, l, al, s.tk + 1⟩ = couldS s ⟨id, a, l, al, s.tk + 1⟩ := rfl
  rw [e5]
  have key := H g.size
  cases hc : couldS s ⟨id, a, l, al, s.tk + 1⟩ with
  | true =>
    rw [hc] at key
    simp only [if_true] at key
    have p0 := cellOf (i := 0) T4.cells rfl
    have i0 := hcell_ext (Eg.trans e4) g0
    simp (disch := omega) [p0, i0]
    refine Hp_mapUpdate lockKey T4.map fun h5 hm5 m5 => ?_
    have hup : upd id (ptrV g.size) (mapL s.H) = mapL (s.H ++ [⟨id, g.size, ⟨id, a, l, al, s.tk + 1⟩⟩]) := by
      rw [upd_mapL (fun x hx => hkn x (List.mem_append_left _ hx))]
      simp [mapL]
    have hm6 := hm5
    rw [show (Value.pointer (some ⟨g.size, 0, none⟩)) = ptrV g.size from rfl, hup] at hm6
    have nm : ∀ {b : Nat} {arr : Array Value} {t : Go.TypeId}, h4[b]? = some (.cells arr t) → b ≠ s.m := fun {b arr t} hb e => by
      obtain ⟨es, cl, h3, _⟩ := T4.map
      rw [e] at hb
      rw [hb] at h3; cases h3
    obtain ⟨q1, q3, q4, q5, q6⟩ := grown (h := h5) (s := s) (t := s.tk + 1) (perm_H (x := ⟨id, g.size, ⟨id, a, l, al, s.tk + 1⟩⟩) (t := s.tk + 1)) (fun y hy => ⟨(T4.rq y hy).1.mod m5 (nm (T4.rq y hy).1.1), (T4.rq y hy).2⟩) ⟨⟨r4.mod m5 (nm r4), hok⟩, rfl⟩ hnb hkn (fun y hy => by have := hs.tks y hy; omega) (Int.le_refl _) hs.blks hs.keys hfew
    exact key s.w h5 zg ⟨⟨(m5.block p (get_some_lt T4.cells) (nm T4.cells)).trans T4.cells, hm6, T4.row.mod m5 (fun b hb e => by obtain ⟨arr, ha⟩ := T4.row.tag hb; exact nm ha e), q1, q3, q4, q5⟩, q6, hT.tkb, hs.ord⟩ (M4.trans m5 (fun _ _ e => .inr (.inl e))) (fun b hb => .inl hb)
  | false =>
    rw [hc] at key
    simp only [Bool.false_eq_true, if_false] at key
    simp (disch := omega) [Hp_mkIface (P := Try.prog) (t := 66) (by kernel_rfl), Hp_mkIface (P := Try.prog) (t := 59) (by kernel_rfl)]
    have hWl : s.W.length + 1 < 100000 := by simp [Lk.all] at hfew; omega
    refine heapPush_c (x := ⟨id, g.size, ⟨id, a, l, al, s.tk + 1⟩⟩) T4.toLkAt.line r4 hWl (fun y hy => by have := hs.tks y (List.mem_append_right _ hy); show y.r.tk ≤ s.tk + 1; omega) fun w' h5 ln m5 hb5 => ?_
    have np : ∀ b, foot p s b → b ≠ s.m → b = p ∨ blkV s.w = some b := fun b hb hne => hb.elim .inl (fun e => e.elim (fun e => absurd e hne) .inr)
    have hft : ∀ b, (b = p ∨ blkV s.w = some b) → foot p s b := fun b e => e.elim .inl (fun e => .inr (.inr e))
    have Rn : ∀ y ∈ s.all, ¬ (y.b = p ∨ blkV s.w = some y.b) := fun y hy e => T4.toLkAt.apart (T4.rq y hy).1.1 (hft _ e) rfl
    have rn : ¬ (g.size = p ∨ blkV s.w = some g.size) := fun e => T4.toLkAt.apart (x := ⟨id, g.size, ⟨id, a, l, al, s.tk + 1⟩⟩) r4 (hft _ e) rfl
    obtain ⟨q1, q3, q4, q5, q6⟩ := grown (h := h5) (s := s) (t := s.tk + 1) (perm_W (x := ⟨id, g.size, ⟨id, a, l, al, s.tk + 1⟩⟩) (w := w') (t := s.tk + 1)) (fun y hy => ⟨(T4.rq y hy).1.mod m5 (Rn y hy), (T4.rq y hy).2⟩) ⟨⟨r4.mod m5 rn, hok⟩, rfl⟩ hnb hkn (fun y hy => by have := hs.tks y hy; omega) (Int.le_refl _) hs.blks hs.keys hfew
    have hz4 : h.size ≤ h4.size := by have := Eg.size; have := e4.size; omega
    refine key w' h5 zg ⟨⟨ln.cells, T4.map.mod m5 ?_, ln.row, q1, q3, q4, q5⟩, q6, hT.tkb, ?_⟩ (M4.trans m5 (fun _ _ e => hft _ e)) (fun b hb => (hb5 b hb).imp (fun e => e) (fun e => by omega))
    · rintro (e | e)
      · obtain ⟨es, cl, h3, _⟩ := T4.map
        rw [e, T4.cells] at h3; cases h3
      · obtain ⟨es, cl, h3, _⟩ := T4.map
        exact T4.row.neM e h3 rfl
    · intro i i0 hi
      simp at hi
      unfold tkO
      rcases Nat.lt_or_ge i s.W.length with hl | hl
      · rw [List.getElem?_append_left hl, List.getElem?_append_left (by omega)]
        exact hs.ord i i0 hl
      · have : i = s.W.length := by omega
        subst this
        rw [List.getElem?_append_right (Nat.le_refl _), List.getElem?_append_left (by omega), List.getElem?_eq_getElem (by omega)]
        have := hs.tks _ (List.mem_append_right s.H (List.getElem_mem (show (s.W.length - 1) / 2 < s.W.length by omega)))
        simp; omega
end Go.Proofs.Ytlligpgjkmfhpaa
set_option linter.unusedSimpArgs false
set_option linter.unusedVariables false
namespace Go.Proofs.Ytlligpgjkmfhpaa
open Go.Vc
variable {K : Value → Heap → Prop} {h : Heap}

theorem snocRec {α : Type} {motive : List α → Prop} (h0 : motive []) (h1 : ∀ l x, motive l → motive (l ++ [x])) (l : List α) : motive l := by
  rw [← List.reverse_reverse l]
  induction l.reverse with
  | nil => exact h0
  | cons x xs ih => rw [List.reverse_cons]; exact h1 _ _ ih
def goStep (st : List Rb × List Rb × List Int) (x : Rb) : List Rb × List Rb × List Int :=
  if (st.1.any fun y => agst x.r y.r) || (st.2.1.any fun y => agst x.r y.r) then (st.1, st.2.1 ++ [x], st.2.2) else (st.1 ++ [x], st.2.1, st.2.2 ++ [x.key])
def goF (H : List Rb) (L : List Rb) : List Rb × List Rb × List Int := L.foldl goStep (H, [], [])
theorem goF_snoc (H L : List Rb) (x : Rb) : goF H (L ++ [x]) = goStep (goF H L) x := by unfold goF; rw [List.foldl_append]; rfl
theorem goF_perm (H : List Rb) (L : List Rb) : ((goF H L).1 ++ (goF H L).2.1).Perm (H ++ L) := by
  refine snocRec (motive := fun L => ((goF H L).1 ++ (goF H L).2.1).Perm (H ++ L)) ?_ ?_ L
  · simp [goF]
  · intro L x ih
    rw [goF_snoc]
    unfold goStep
    split
    · rw [← List.append_assoc, ← List.append_assoc]
      exact ih.append_right [x]
    · rw [← List.append_assoc]
      refine List.Perm.trans ?_ (ih.append_right [x])
      rw [List.append_assoc, List.append_assoc]
      exact List.Perm.append_left _ List.perm_append_comm
theorem goF_sub (H : List Rb) (L : List Rb) : (goF H L).2.1.Sublist L := by
  refine snocRec (motive := fun L => (goF H L).2.1.Sublist L) ?_ ?_ L
  · simp [goF]
  · intro L x ih
    rw [goF_snoc]
    unfold goStep
    split
    · exact ih.append (List.Sublist.refl _)
    · exact ih.trans (List.sublist_append_left _ _)

theorem goF_out (H : List Rb) (L : List Rb) : (goF H L).2.2.length ≤ L.length := by
  refine snocRec (motive := fun L => (goF H L).2.2.length ≤ L.length) ?_ ?_ L
  · simp [goF]
  · intro L x ih
    rw [goF_snoc]
    unfold goStep
    split
    · simp; omega
    · simpa using ih

structure GoI (h g : Heap) (p : Nat) (s : Lk) (L Wr : List Rb) (v lv ov : Value) : Prop where
  ln : LnAt g p (.map (some s.m)) (.int .i64 s.tk) v Wr
  hok : HOk Wr Wr.length
  perm : (L ++ Wr).Perm s.W
  sorted : L.Pairwise (fun x y => x.r.tk ≤ y.r.tk)
  le : ∀ x ∈ L, ∀ y ∈ Wr, x.r.tk ≤ y.r.tk
  map : MapK (.int .i64) g s.m (mapL (goF s.H L).1)
  rq : ∀ x ∈ s.all, RbAt g x
  left : OwnT lnT 1 g lv (ptrs (goF s.H L).2.1)
  out : OwnT 3 1 g ov ((goF s.H L).2.2.map (.int .i64))
  vb : ∀ b, blkV v = some b → blkV s.w = some b
  lb : ∀ b, blkV lv = some b → h.size ≤ b
  ob : ∀ b, blkV ov = some b → h.size ≤ b
  mod : Mod (foot p s) h g

theorem GoI.sub {h g : Heap} {p : Nat} {s : Lk} {L Wr : List Rb} {v lv ov : Value} (a : GoI h g p s L Wr v lv ov) : (∀ x ∈ (goF s.H L).1, x ∈ s.all) ∧ (∀ x ∈ (goF s.H L).2.1, x ∈ s.all) ∧ (∀ x ∈ Wr, x ∈ s.all) := by
  have hp := goF_perm s.H L
  have hL : ∀ x ∈ L, x ∈ s.W := fun x hx => a.perm.mem_iff.1 (List.mem_append_left _ hx)
  have hHL : ∀ x ∈ s.H ++ L, x ∈ s.all := fun x hx => by
    rcases List.mem_append.1 hx with e | e
    · exact List.mem_append_left _ e
    · exact List.mem_append_right _ (hL x e)
  exact ⟨fun x hx => hHL x (hp.mem_iff.1 (List.mem_append_left _ hx)), fun x hx => hHL x (hp.mem_iff.1 (List.mem_append_right _ hx)), fun x hx => List.mem_append_right _ (a.perm.mem_iff.1 (List.mem_append_right _ hx))⟩

theorem GoI.all {h g : Heap} {p : Nat} {s : Lk} {L Wr : List Rb} {v lv ov : Value} (a : GoI h g p s L Wr v lv ov) : ((goF s.H L).1 ++ (goF s.H L).2.1 ++ Wr).Perm s.all := by
  refine ((goF_perm s.H L).append_right Wr).trans ?_
  rw [List.append_assoc]
  exact a.perm.append_left _
theorem GoI.apart {h g : Heap} {p : Nat} {s : Lk} {L Wr : List Rb} {v lv ov : Value} (a : GoI h g p s L Wr v lv ov) (hb : (s.all.map (·.b)).Nodup) (hk : (s.all.map (·.key)).Nodup) {x y : Rb} (hx : x ∈ Wr) (hy : y ∈ (goF s.H L).1 ∨ y ∈ (goF s.H L).2.1) : x.b ≠ y.b ∧ x.key ≠ y.key := by
  rw [← (a.all.map _).nodup_iff, List.map_append, List.nodup_append] at hb hk
  have hy' : y ∈ (goF s.H L).1 ++ (goF s.H L).2.1 := List.mem_append.2 hy
  exact ⟨fun e => hb.2.2 y.b (List.mem_map_of_mem hy') x.b (List.mem_map_of_mem hx) e.symm, fun e => hk.2.2 y.key (List.mem_map_of_mem hy') x.key (List.mem_map_of_mem hx) e.symm⟩

set_option maxHeartbeats 4000000 in
theorem goOn_c {p : Nat} {s : Lk} (hs : Lks h p s)
    (H : ∀ L lv ov h', L.Perm s.W → L.Pairwise (fun x y => x.r.tk ≤ y.r.tk) → Lks h' p { s with H := (goF s.H L).1, W := (goF s.H L).2.1, w := lv } → OwnT 3 1 h' ov ((goF s.H L).2.2.map (.int .i64)) →
      Mod (foot p s) h h' → (∀ b, blkV lv = some b → h.size ≤ b) → (∀ b, blkV ov = some b → h.size ≤ b) → K ov h') :
    CallsH Try.prog 37 #[ptrV p] h K ⟨⟩ := by
  refine n37_calls ?_
  unfold n37
  refine loopA2 (α := Value × Value × Value × List Rb × List Rb) (fun a => a.1) (fun a => a.2.1) (fun a g => GoI h g p s a.2.2.2.1 a.2.2.2.2 a.2.2.1 a.2.1 a.1) (fun a => a.2.2.2.2.length) (.slice none 0 0, .slice none 0 0, s.w, [], s.W) ⟨rfl, rfl⟩ ⟨hs.toLkAt.line, hs.ord, .refl _, .nil, fun x hx => (by cases hx), by simpa [goF] using hs.map, fun x hx => (hs.rq x hx).1, .inl ⟨rfl, rfl⟩, .inl ⟨rfl, rfl⟩, fun b hb => hb, fun b hb => (by cases hb), fun b hb => (by cases hb), .refl _ _⟩ ?_
  rintro ⟨ov, lv, v, L, Wr⟩ g I
  dsimp only at I ⊢
  have c1 := cellOf (i := 1) I.ln.cells rfl
  have f1 := frzOf (i := 1) I.ln.cells
  unfold ptrV
  simp (disch := omega) [c1]
  obtain ⟨a, c, hv, hc, hne⟩ := I.ln.form
  refine n50_calls ?_
  unfold n50
  rw [hv]
  simp (disch := omega)
  by_cases hW : Wr = []
  · subst hW
    simp (disch := omega) [f1, c1]
    have c1' := cellOf (i := 1) I.ln.cells rfl
    obtain ⟨lo, ln, lc, hlv, -, -, -⟩ := I.left.form (by omega)
    rw [hlv]
    simp (disch := omega) [f1, c1']
    rw [← hlv]
    have m1 : Mod (· = p) g (hset g ⟨p, 1, none⟩ lv) := Mod.set g ⟨p, 1, none⟩ lv
    have hpW : L.Perm s.W := by simpa using I.perm
    have hall : ((goF s.H L).1 ++ (goF s.H L).2.1).Perm s.all := by have := I.all; simpa using this
    have nm : ∀ {b : Nat} {arr : Array Value} {t : Go.TypeId}, g[b]? = some (.cells arr t) → b ≠ s.m := fun {b arr t} hb e => by
      obtain ⟨es, cl, h3, _⟩ := I.map
      rw [e] at hb
      rw [hb] at h3; cases h3
    refine H L lv ov _ hpW I.sorted ⟨⟨obj_set I.ln.cells, I.map.mod m1 (fun e => nm I.ln.cells e.symm), I.left.mod m1 (fun b hb e => I.left.ne hb I.ln.cells lnT_ne e), fun x hx => ?_, ?_, ?_, ?_⟩, fun x hx => ?_, hs.tkb, ?_⟩
      (I.out.mod m1 (fun b hb e => I.out.ne hb I.ln.cells (by decide) e)) (I.mod.trans m1 (fun _ _ e => .inl e)) I.lb I.ob
    · have hx' : x ∈ s.all := hall.mem_iff.1 hx
      have hr := I.rq x hx'
      refine ⟨hr.mod m1 (fun e => ?_), (hs.rq x hx').2⟩
      have := hr.1
      unfold RqAt at this
      rw [e, I.ln.cells] at this; cases this
    · show (((goF s.H L).1 ++ (goF s.H L).2.1).map (·.b)).Nodup
      rw [(hall.map _).nodup_iff]; exact hs.blks
    · show (((goF s.H L).1 ++ (goF s.H L).2.1).map (·.key)).Nodup
      rw [(hall.map _).nodup_iff]; exact hs.keys
    · show ((goF s.H L).1 ++ (goF s.H L).2.1).length < 100000
      rw [hall.length_eq]; exact hs.few
    · exact hs.tks x (hall.mem_iff.1 hx)
    · have hps := I.sorted.sublist (goF_sub s.H L)
      intro i i0 hi
      have hi' : i < (goF s.H L).2.1.length := hi
      show tkO (goF s.H L).2.1 ((i - 1) / 2) ≤ tkO (goF s.H L).2.1 i
      rw [tkO_get (by omega), tkO_get hi']
      exact List.pairwise_iff_getElem.1 hps _ _ (by omega) hi' (by omega)
  · have hpos : 0 < Wr.length := List.length_pos_iff.2 hW
    simp (disch := omega)
    refine JoinN.mk ?_
    simp (disch := omega) [Hp_mkIface (P := Try.prog) (t := 66) (by kernel_rfl)]
    refine heapPop_c I.ln hW I.hok fun x W' v' g1 hp1 hmin hok1 ln1 m1 hvb1 => ?_
    have hxW : x ∈ Wr := hp1.mem_iff.1 List.mem_cons_self
    have hxa := I.sub.2.2 x hxW
    have P1 : (L ++ [x] ++ W').Perm s.W := by
      rw [List.append_assoc, List.singleton_append]
      exact (hp1.append_left L).trans I.perm
    have S1 : (L ++ [x]).Pairwise (fun x y => x.r.tk ≤ y.r.tk) := by
      rw [List.pairwise_append]
      exact ⟨I.sorted, by simp, fun y hy z hz => by simp at hz; subst hz; exact I.le y hy z hxW⟩
    have L1 : ∀ y ∈ L ++ [x], ∀ z ∈ W', y.r.tk ≤ z.r.tk := fun y hy z hz => by
      have hz' : z ∈ Wr := hp1.mem_iff.1 (List.mem_cons_of_mem _ hz)
      rcases List.mem_append.1 hy with e | e
      · exact I.le y e z hz'
      · simp at e; subst e; exact hmin z hz'
    have nm : ∀ {b : Nat} {arr : Array Value} {t : Go.TypeId}, g[b]? = some (.cells arr t) → b ≠ s.m := fun {b arr t} hb e => by
      obtain ⟨es, cl, h3, _⟩ := I.map
      rw [e] at hb
      rw [hb] at h3; cases h3
    have hplt := get_some_lt hs.cells
    have fo : ∀ b, (b = p ∨ blkV v = some b) → b < h.size := fun b e => hs.toLkAt.footlt (e.elim .inl (fun e => .inr (.inr (I.vb b e))))
    have hm1 := I.map.mod m1 (fun e => e.elim (fun e => nm I.ln.cells e.symm) (fun e => by obtain ⟨arr, ha⟩ := I.ln.row.tag e; exact nm ha rfl))
    have hl1 := I.left.mod m1 (fun b hb e => by have := I.lb b hb; have := fo b e; omega)
    have ho1 := I.out.mod m1 (fun b hb e => by have := I.ob b hb; have := fo b e; omega)
    have hr1 : ∀ y ∈ s.all, RbAt g1 y := fun y hy => (I.rq y hy).mod m1 (fun e => by
      have hy' := (I.rq y hy).1
      rcases e with e | e
      · unfold RqAt at hy'
        rw [e, I.ln.cells] at hy'; cases hy'
      · exact I.ln.row.ne e hy' lnT_ne2 rfl)
    have M1 : Mod (foot p s) h g1 := I.mod.trans m1 (fun b _ e => e.elim .inl (fun e => .inr (.inr (I.vb b e))))
    have vb1 : ∀ b, blkV v' = some b → blkV s.w = some b := fun b hb => I.vb b (hvb1 b hb)
    have hdec : W'.length < Wr.length := by have := hp1.length_eq; simp at this; omega
    refine (Hp_assert (t := lnT) (by kernel_rfl)).2 ?_
    simp (disch := omega)
    have okx := hs.rq x hxa
    have hrx := hr1 x hxa
    refine holds_c ln1.cells hm1 (against_tells hrx.1 okx.1.2 (fun y hy => hr1 y (I.sub.1 y hy))) fun g2 e2 => ?_
    rw [any_ne (fun y hy => (I.apart hs.blks hs.keys hxW (.inl hy)).1)]
    have mk : ∀ g3 lv3 ov3, LnAt g3 p (.map (some s.m)) (.int .i64 s.tk) v' W' → MapK (.int .i64) g3 s.m (mapL (goF s.H (L ++ [x])).1) → (∀ y ∈ s.all, RbAt g3 y) → OwnT lnT 1 g3 lv3 (ptrs (goF s.H (L ++ [x])).2.1) → OwnT 3 1 g3 ov3 ((goF s.H (L ++ [x])).2.2.map (.int .i64)) →
        (∀ b, blkV lv3 = some b → h.size ≤ b) → (∀ b, blkV ov3 = some b → h.size ≤ b) → Mod (foot p s) h g3 →
        ∃ a' : Value × Value × Value × List Rb × List Rb, ov3 = a'.1 ∧ lv3 = a'.2.1 ∧ GoI h g3 p s a'.2.2.2.1 a'.2.2.2.2 a'.2.2.1 a'.2.1 a'.1 ∧ a'.2.2.2.2.length < Wr.length := fun g3 lv3 ov3 a1 a2 a3 a4 a5 a6 a7 a8 =>
      ⟨(ov3, lv3, v', L ++ [x], W'), rfl, rfl, ⟨a1, hok1, P1, S1, L1, a2, a3, a4, a5, vb1, a6, a7, a8⟩, hdec⟩
    have against : ∀ (g2 : Heap), Ext g1 g2 → (((goF s.H L).1.any fun y => agst x.r y.r) || ((goF s.H L).2.1.any fun y => agst x.r y.r)) = true → Hp Try.prog false (Instr.buildSlice 55 1 #[(0, ptrV x.b)])
        (fun t30 h_24 => Hp Try.prog false (Builtin.append_ #[55, 55] 55 #[lv, t30]) (fun t31 h_25 => ∃ a' : Value × Value × Value × List Rb × List Rb, ov = a'.1 ∧ t31 = a'.2.1 ∧ GoI h h_25 p s a'.2.2.2.1 a'.2.2.2.2 a'.2.2.1 a'.2.1 a'.1 ∧ a'.2.2.2.2.length < Wr.length) h_24 ⟨⟩) g2 ⟨⟩ := fun g2 e2 hany => by
      have hgo : goF s.H (L ++ [x]) = ((goF s.H L).1, (goF s.H L).2.1 ++ [x], (goF s.H L).2.2) := by
        rw [goF_snoc]; unfold goStep; rw [if_pos hany]
      rw [hgo] at mk
      have hll : (goF s.H L).2.1.length < 100000 := by
        have := hs.few
        have h1 := I.perm.length_eq
        have h2 := (goF_sub s.H L).length_le
        simp [Lk.all] at this h1
        omega
      unfold ptrV
      simp (disch := omega)
      refine Hp_appP (e := lnT) (by_ := 8) (by kernel_rfl) (by kernel_rfl) (hl1.ext e2) rfl (by rw [ptrs_len]; omega) (by omega) fun lv3 g3 o3 m3 f3 => ?_
      have m13 : Mod (fun b => blkV lv = some b) g1 g3 := (Mod.of_ext e2).trans m3 (fun _ _ e => e)
      have hz : h.size ≤ g1.size := M1.size
      have hz2 : h.size ≤ g2.size := Nat.le_trans hz e2.size
      have np : ¬ blkV lv = some p := fun e => by have := I.lb _ e; omega
      refine mk g3 lv3 ov ⟨(m13.block p (get_some_lt ln1.cells) np).trans ln1.cells, ln1.row.mod m13 (fun b hb e => ?_), fun y hy => (ln1.rq y hy).mod m13 (fun e => ?_), ln1.few⟩ (hm1.mod m13 (fun e => ?_)) (fun y hy => (hr1 y hy).mod m13 (fun e => ?_)) ?_ (ho1.mod m13 (fun b hb e => ?_)) (fun b hb => (f3 b hb).elim (I.lb b) (fun e => by omega)) I.ob (M1.trans m13 (fun b hb e => ?_))
      · have := I.lb b e; have := fo b (.inr (hvb1 b hb)); omega
      · exact hl1.ne e (ln1.rq y hy) lnT_ne2 rfl
      · obtain ⟨es, cl, h3, _⟩ := hm1
        exact hl1.neM e h3 rfl
      · exact hl1.ne e (hr1 y hy).1 lnT_ne2 rfl
      · simpa [ptrs, ptrV] using o3
      · obtain ⟨arr, ha⟩ := hl1.tag e
        exact ho1.ne hb ha (by decide) rfl
      · have := I.lb b e; omega
    cases hcH : (goF s.H L).1.any fun y => agst x.r y.r with
    | true =>
      simp (disch := omega)
      exact against g2 e2 (by rw [hcH]; rfl)
    | false =>
      simp (disch := omega)
      refine ContainsFunc_c (hl1.ext e2) ?_ (against_tells (hrx.1.ext e2) okx.1.2 (fun y hy => (hr1 y (I.sub.2.1 y hy)).ext e2)) fun g3 e3 => ?_
      · have := hs.few
        have h1 := I.perm.length_eq
        have h2 := (goF_sub s.H L).length_le
        simp [Lk.all] at this h1
        omega
      rw [any_ne (fun y hy => (I.apart hs.blks hs.keys hxW (.inr hy)).1)]
      cases hcW : (goF s.H L).2.1.any fun y => agst x.r y.r with
      | true =>
        simp (disch := omega)
        exact against g3 (e2.trans e3) (by rw [hcH, hcW]; rfl)
      | false =>
        simp (disch := omega)
        have ln3 : LnAt g3 p (.map (some s.m)) (.int .i64 s.tk) v' W' := ⟨(((e2.trans e3).block p (get_some_lt ln1.cells))).trans ln1.cells, ln1.row.ext (e2.trans e3), fun y hy => (ln1.rq y hy).ext (e2.trans e3), ln1.few⟩
        have hm3 := hm1.ext (e2.trans e3)
        have hr3 : ∀ y ∈ s.all, RbAt g3 y := fun y hy => (hr1 y hy).ext (e2.trans e3)
        have hl3 := hl1.ext (e2.trans e3)
        have ho3 := ho1.ext (e2.trans e3)
        have M3 : Mod (foot p s) h g3 := M1.extIn (e2.trans e3)
        have p0 := cellOf (i := 0) ln3.cells rfl
        have x0 := (hr3 x hxa).1.c0
        rw [← okx.2] at x0
        unfold ptrV
        simp (disch := omega) [p0, x0]
        refine Hp_mapUpdate lockKey hm3 fun h5 hm5 m5 => ?_
        have hkn : ∀ y ∈ (goF s.H L).1, y.key ≠ x.key := fun y hy => (I.apart hs.blks hs.keys hxW (.inl hy)).2.symm
        have hup : upd x.key (ptrV x.b) (mapL (goF s.H L).1) = mapL ((goF s.H L).1 ++ [x]) := by
          rw [upd_mapL hkn]
          simp [mapL]
        rw [show (Value.pointer (some ⟨x.b, 0, none⟩)) = ptrV x.b from rfl, hup] at hm5
        have nm3 : ∀ {b : Nat} {arr : Array Value} {t : Go.TypeId}, g3[b]? = some (.cells arr t) → b ≠ s.m := fun {b arr t} hb e => by
          obtain ⟨es, cl, h3, _⟩ := hm3
          rw [e] at hb
          rw [hb] at h3; cases h3
        have hr5 : ∀ y ∈ s.all, RbAt h5 y := fun y hy => (hr3 y hy).mod m5 (nm3 (hr3 y hy).1)
        have x5 := (hr5 x hxa).1.c0
        rw [← okx.2] at x5
        simp (disch := omega) [x5]
        have hgo : goF s.H (L ++ [x]) = ((goF s.H L).1 ++ [x], (goF s.H L).2.1, (goF s.H L).2.2 ++ [x.key]) := by
          rw [goF_snoc]; unfold goStep; rw [hcH, hcW]; rfl
        rw [hgo] at mk
        have ho5 := ho3.mod m5 (fun b hb e => by obtain ⟨arr, ha⟩ := ho3.tag hb; exact nm3 ha e)
        have hol : (goF s.H L).2.2.length < 100000 := by
          have := hs.few
          have h1 := I.perm.length_eq
          have h2 := goF_out s.H L
          simp [Lk.all] at this h1
          omega
        refine Hp_appP (e := 3) (by_ := 8) (by kernel_rfl) (by kernel_rfl) ho5 rfl (by simp; omega) (by omega) fun ov6 g6 o6 m6 f6 => ?_
        have no : ∀ {b : Nat} {arr : Array Value} {t : Go.TypeId}, h5[b]? = some (.cells arr t) → t ≠ 3 → ¬ blkV ov = some b := fun hb hne e => ho5.ne e hb (Ne.symm hne) rfl
        have c5 : h5[p]? = some (.cells #[.map (some s.m), v', .int .i64 s.tk] 57) := (m5.block p (get_some_lt ln3.cells) (nm3 ln3.cells)).trans ln3.cells
        have row5 := ln3.row.mod m5 (fun b hb e => by obtain ⟨arr, ha⟩ := ln3.row.tag hb; exact nm3 ha e)
        have left5 := hl3.mod m5 (fun b hb e => by obtain ⟨arr, ha⟩ := hl3.tag hb; exact nm3 ha e)
        have noT : ∀ {b : Nat} {v : Value} {vs : List Value}, OwnT lnT 1 h5 v vs → blkV v = some b → ¬ blkV ov = some b := fun o hb e => by
          obtain ⟨arr, ha⟩ := o.tag hb
          exact no ha (by decide) e
        have hz5 : h.size ≤ h5.size := Nat.le_trans M3.size m5.size
        refine mk g6 lv ov6 ⟨(m6.block p (get_some_lt c5) (no c5 (by decide))).trans c5, row5.mod m6 (fun b hb e => noT row5 hb e), fun y hy => ?_, ln3.few⟩ (hm5.mod m6 (fun e => ?_)) (fun y hy => (hr5 y hy).mod m6 (no (hr5 y hy).1 (by decide))) (left5.mod m6 (fun b hb e => noT left5 hb e)) ?_ I.lb (fun b hb => (f6 b hb).elim (I.ob b) (fun e => by omega)) ((M3.trans m5 (fun b _ e => .inr (.inl e))).trans m6 (fun b hb e => by have := I.ob b e; omega))
        · have hy5 : RqAt h5 y.b y.r := (ln3.rq y hy).mod m5 (nm3 (ln3.rq y hy))
          exact hy5.mod m6 (no hy5 (by decide))
        · obtain ⟨es, cl, h3, _⟩ := hm5
          exact ho5.neM e h3 rfl
        · simpa using o6
end Go.Proofs.Ytlligpgjkmfhpaa
