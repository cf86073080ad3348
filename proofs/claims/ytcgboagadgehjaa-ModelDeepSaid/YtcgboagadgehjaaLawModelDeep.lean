/- What is proved: the law palimpsestlaw25.ModelDeep returns true, and changes nothing that was there. No conditions. -/
import Derived.Test.YtcgboagadgehjaaRows
import Derived.Test.YtcgboagadgehjaaMdlD
set_option linter.unusedSimpArgs false
set_option linter.unusedVariables false
namespace Go.Proofs.Ytcgboagadgehjaa
open Go.Vc
variable {K : Value → Heap → Prop} {h : Heap}

def aaa (i : Nat) : List UInt8 := List.replicate i 97
theorem aaa_len {i : Nat} : (aaa i).length = i := List.length_replicate
theorem aaa_ne {i j : Nat} (h : i ≠ j) : aaa i ≠ aaa j := fun e => h (by have := congrArg List.length e; rwa [aaa_len, aaa_len] at this)
theorem aaa_app {i : Nat} : aaa i ++ [97] = aaa (i + 1) := (List.replicate_succ').symm
theorem okN_aaa {i : Nat} (h0 : 0 < i) (h1 : i ≤ 8) : OkN (aaa i) := by
  have : i = 1 ∨ i = 2 ∨ i = 3 ∨ i = 4 ∨ i = 5 ∨ i = 6 ∨ i = 7 ∨ i = 8 := by omega
  rcases this with rfl | rfl | rfl | rfl | rfl | rfl | rfl | rfl <;> exact ⟨by decide, by decide, by decide⟩
theorem okN_cc : OkN [99] := ⟨by decide, by decide, by decide⟩
/-- A chain of i images, one over another. -/
structure Chn (ws : List Im) (i : Nat) : Prop where
  all : ∀ z ∈ ws, ∃ j, j < i ∧ z.nm = aaa (j + 1) ∧ z.bk = aaa j
  find : ∀ j, j < i → ∃ z, findI (aaa (j + 1)) ws = some z
  len : ws.length = i
theorem Chn.bk {ws : List Im} {i j : Nat} (a : Chn ws i) (hj : j < i) : bkOf ws (aaa (j + 1)) = aaa j := by
  obtain ⟨z, hz⟩ := a.find j hj
  unfold bkOf
  rw [hz]
  obtain ⟨h1, h2⟩ := findI_mem hz
  obtain ⟨k, hk, h3, h4⟩ := a.all z h1
  rw [h2] at h3
  have : k = j := by
    by_cases e : k = j
    · exact e
    · exact absurd h3 (aaa_ne (by omega))
  rw [← this]; exact h4
theorem Chn.none {ws : List Im} {i : Nat} {nm : List UInt8} (a : Chn ws i) (h : ∀ j, j < i → nm ≠ aaa (j + 1)) : findI nm ws = none := findI_none.2 fun z hz e => by
  obtain ⟨j, hj, h1, _⟩ := a.all z hz
  exact h j hj (by rw [← e, h1])
theorem Chn.seq {ws : List Im} {i : Nat} (a : Chn ws i) : ∀ k, k ≤ i → seqX ws (aaa i) k = aaa (i - k)
  | 0, _ => rfl
  | k + 1, hk => by
    show bkOf ws (seqX ws (aaa i) k) = _
    rw [a.seq k (by omega), show i - k = (i - (k + 1)) + 1 by omega, a.bk (by omega)]
theorem aaa_ne0 {i : Nat} (h : 0 < i) : aaa i ≠ [] := fun e => by
  have := congrArg List.length e
  rw [aaa_len] at this
  simp at this
  omega
set_option maxHeartbeats 4000000 in
theorem ModelDeep_c (H : ∀ h', Ext h h' → K (.bool true) h') : CallsH Try.prog 5 #[] h K ⟨⟩ := by
  refine n5_calls ?_
  unfold n5
  refine New_c fun w wm h1 e1 a1 f1 f2 => ?_
  unfold ptrV
  simp (disch := omega)
  rw [show (.int .i64 512 : Value) = .int .i64 ((1 * 512 : Nat) : Int) from rfl, show (.pointer (some ⟨w, 0, none⟩) : Value) = ptrV w from rfl]
  refine Create_c (n := 1) (bits := 9) (bk := []) a1 okN_a (by omega) (by omega) rfl (.inl rfl) (by simp) (fun x h2 hx _ a2 m2 fb fm => ?_) (fun h2 hd _ => absurd rfl (hd 0 (by omega)))
  simp (disch := omega)
  refine num_c ?_
  simp (disch := omega)
  have E2 : Ext h h2 := m2.ext_from e1 (fun b hb e => by have e' : b = wm := e; omega)
  have C0 : Chn [x] 1 := by
    have h1 : x.nm = aaa 1 := by rw [hx]; rfl
    have h2 : x.bk = aaa 0 := by rw [hx]; rfl
    refine ⟨fun z hz => ?_, fun j hj => ⟨x, ?_⟩, rfl⟩
    · simp at hz
      exact ⟨0, by omega, by rw [hz]; exact h1, by rw [hz]; exact h2⟩
    · obtain rfl : j = 0 := by omega
      unfold findI
      rw [if_pos h1.symm]
  clear hx
  refine loopX2 (α := Nat × List Im) (fun a => str (aaa a.1)) (fun a => .int .i64 a.1) (fun a g => 1 ≤ a.1 ∧ a.1 ≤ 8 ∧ WdAt g w wm a.2 ∧ Chn a.2 a.1 ∧ Ext h g) (fun a => 8 - a.1) (1, [x]) ⟨rfl, rfl⟩ ⟨by simp, by simp, a2, C0, E2⟩ ?_
  clear C0 a2 a1 m2 fb fm E2
  rintro ⟨i, ws⟩ g ⟨h1i, hi, aw, C, eg⟩ X hX
  dsimp only at h1i hi aw C eg hX ⊢
  have hrep : str (aaa i) = str (aaa i) := rfl
  by_cases hi8 : i < 8
  · simp (disch := omega)
    rw [Hp_addStr (by rw [aaa_len]; simp; omega), aaa_app, show (.int .i64 512 : Value) = .int .i64 ((1 * 512 : Nat) : Int) from rfl]
    obtain ⟨z, hz⟩ := C.find (i - 1) (by omega)
    rw [show i - 1 + 1 = i by omega] at hz
    have hnew := C.none (nm := aaa (i + 1)) (fun j hj => aaa_ne (by omega))
    refine Create_c (n := 1) (bits := 9) (bk := aaa i) aw (okN_aaa (by omega) (by omega)) (by omega) (by omega) hnew (.inr ⟨okN_aaa (by omega) (by omega), z, hz⟩) (by rw [C.len]; omega) (fun y h2 hy _ a2 m2 fb fm => ?_) (fun h2 hd _ => absurd ?_ (hd i (by omega)))
    · refine num_c ?_
      simp (disch := omega)
      have yn : y.nm = aaa (i + 1) := by rw [hy]; rfl
      have yb : y.bk = aaa i := by rw [hy]; rfl
      refine hX (i + 1, y :: ws) _ _ _ rfl (by simp) ⟨by simp, hi8, a2, ⟨fun z hz => ?_, fun j hj => ?_, by rw [List.length_cons, C.len]⟩, m2.ext_from eg (fun b hb e => by have e' : b = wm := e; omega)⟩ (by dsimp only; omega)
      · rcases List.mem_cons.1 hz with rfl | hz
        · exact ⟨i, by simp, yn, yb⟩
        · obtain ⟨j, h1, h2⟩ := C.all z hz
          exact ⟨j, by dsimp only; omega, h2⟩
      · dsimp only at hj
        by_cases e : j = i
        · refine ⟨y, ?_⟩
          unfold findI
          rw [if_pos (by rw [e, yn])]
        · obtain ⟨z, hz⟩ := C.find j (by omega)
          refine ⟨z, ?_⟩
          unfold findI
          rw [if_neg (by rw [yn]; exact aaa_ne (by omega))]
          exact hz
    · rw [C.seq i (by omega), Nat.sub_self]; rfl
  · obtain rfl : i = 8 := by omega
    simp (disch := omega)
    rw [show (.int .i64 512 : Value) = .int .i64 ((1 * 512 : Nat) : Int) from rfl]
    obtain ⟨z, hz⟩ := C.find 7 (by omega)
    have nb : ∀ c : UInt8, c ≠ 97 → ∀ j, [c] ≠ aaa (j + 1) := fun c hc j e => by
      unfold aaa at e
      rw [List.replicate_succ] at e
      injection e with e1
      exact hc e1
    have hs8 : ∀ k, k ≤ 7 → seqX ws (aaa 8) k ≠ [] := fun k hk => by
      rw [C.seq k (by omega)]
      exact aaa_ne0 (by omega)
    refine Create_c (n := 1) (bits := 9) (bk := aaa 8) aw okN_b (by omega) (by omega) (C.none fun j hj => nb 98 (by decide) j) (.inr ⟨okN_aaa (by omega) (by omega), z, hz⟩) (by rw [C.len]; omega) (fun y h2 hy hno a2 m2 fb fm => ?_) (fun h2 hd e2 => ?_)
    · obtain ⟨k, h1, h2⟩ := hno
      exact absurd h2 (hs8 k (by omega))
    refine num_c ?_
    refine Create_c (n := 1) (bits := 9) (bk := []) (aw.ext e2) okN_cc (by omega) (by omega) (C.none fun j hj => nb 99 (by decide) j) (.inl rfl) (by rw [C.len]; omega) (fun y h3 hy _ a3 m3 fb fm => ?_) (fun h2 hd _ => absurd rfl (hd 0 (by omega)))
    have E3 : Ext h h3 := m3.ext_from (eg.trans e2) (fun b hb e => by have e' : b = wm := e; omega)
    have yn : y.nm = [99] := by rw [hy]; rfl
    have yb : y.bk = [] := by rw [hy]; rfl
    have fc : findI [99] (y :: ws) = some y := by unfold findI; rw [if_pos yn.symm]
    have fa : ∀ j, j < 8 → ∃ z, findI (aaa (j + 1)) (y :: ws) = some z := fun j hj => by
      obtain ⟨z, hz⟩ := C.find j hj
      refine ⟨z, ?_⟩
      unfold findI
      rw [if_neg (by rw [yn]; exact fun e => nb 99 (by decide) j e.symm)]
      exact hz
    have bka : ∀ j, j < 8 → bkOf (y :: ws) (aaa (j + 1)) = aaa j := fun j hj => by
      have h1 := C.bk hj
      unfold bkOf at h1 ⊢
      unfold findI
      rw [if_neg (by rw [yn]; exact fun e => nb 99 (by decide) j e.symm)]
      exact h1
    have noc : ∀ z ∈ y :: ws, z.bk ≠ [99] := fun z hz => by
      rcases List.mem_cons.1 hz with rfl | hz
      · rw [yb]; decide
      · obtain ⟨j, _, _, h2⟩ := C.all z hz
        rw [h2]
        cases j with
        | zero => exact fun e => by cases e
        | succ j => exact fun e => nb 99 (by decide) j e.symm
    have no8 : ∀ z ∈ y :: ws, z.bk ≠ aaa 8 := fun z hz => by
      rcases List.mem_cons.1 hz with rfl | hz
      · rw [yb]; exact fun e => by cases e
      · obtain ⟨j, h1, _, h2⟩ := C.all z hz
        rw [h2]; exact aaa_ne (by omega)
    refine num_c ?_
    refine Rebase_deep (x := y) a3 okN_cc yn fc (okN_aaa (by omega) (by omega)) (fa 7 (by omega)) noc (fun i hi => ?_) fun h4 e4 => ?_
    · have key : ∀ k, k ≤ 8 → seqB (y :: ws) [99] (aaa 8) k = if k = 0 then [99] else aaa (9 - k) := fun k => by
        induction k with
        | zero => intro _; rfl
        | succ k ih =>
          intro hk
          show (if seqB (y :: ws) [99] (aaa 8) k = [99] then aaa 8 else bkOf (y :: ws) (seqB (y :: ws) [99] (aaa 8) k)) = _
          rw [ih (by omega), if_neg (show ¬ k + 1 = 0 by omega)]
          by_cases e : k = 0
          · rw [if_pos e, if_pos rfl, e]
          · rw [if_neg e, show 9 - k = (9 - (k + 1)) + 1 by omega, if_neg (fun e : aaa (9 - (k + 1) + 1) = [99] => nb 99 (by decide) _ e.symm), bka _ (by omega)]
      rw [key i hi]
      split
      · decide
      · exact aaa_ne0 (by omega)
    refine num_c ?_
    have bz : ∃ z ∈ y :: ws, z.bk = [97] := by
      obtain ⟨z, hz⟩ := fa 1 (by omega)
      refine ⟨z, (findI_mem hz).1, ?_⟩
      have := bka 1 (by omega)
      unfold bkOf at this
      rw [hz] at this
      exact this
    obtain ⟨za, hza⟩ := fa 0 (by omega)
    refine Rebase_busy (x := za) (a3.ext e4) okN_a (findI_mem hza).2 hza (okN_aaa (by omega) (by omega)) (fa 7 (by omega)) bz fun h5 e5 => ?_
    refine num_c ?_
    obtain ⟨z8, hz8⟩ := fa 7 (by omega)
    refine Rebase_deep (x := z8) (a3.ext (e4.trans e5)) (okN_aaa (by omega) (by omega)) (findI_mem hz8).2 hz8 (okN_aaa (by omega) (by omega)) ⟨z8, hz8⟩ no8 (fun i hi => ?_) fun h6 e6 => ?_
    · have key : ∀ k, seqB (y :: ws) (aaa 8) (aaa 8) k = aaa 8 := fun k => by
        induction k with
        | zero => rfl
        | succ k ih =>
          show (if seqB (y :: ws) (aaa 8) (aaa 8) k = aaa 8 then aaa 8 else _) = _
          rw [if_pos ih]
      rw [key i]
      exact aaa_ne0 (by omega)
    refine num_c ?_
    refine Rebase_deep (x := y) (a3.ext ((e4.trans e5).trans e6)) okN_cc yn fc okN_cc ⟨y, fc⟩ noc (fun i hi => ?_) fun h7 e7 => ?_
    · have key : ∀ k, seqB (y :: ws) [99] [99] k = [99] := fun k => by
        induction k with
        | zero => rfl
        | succ k ih =>
          show (if seqB (y :: ws) [99] [99] k = [99] then [99] else _) = _
          rw [if_pos ih]
      rw [key i]
      decide
    refine num_c ?_
    simp (disch := omega)
    refine works_c fun h' e => ?_
    simp (disch := omega)
    exact H h' ((E3.trans (((e4.trans e5).trans e6).trans e7)).trans e)
end Go.Proofs.Ytcgboagadgehjaa
namespace Go.Proofs.Ytcgboagadgehjaa.modelDeep
open Go.ChangeShapes Go.WideShapes Go.ChangeAt Go.RowKit Go.Joins Go.Vc

theorem own : ownKnob Try.prog.godebug = none := by kernel_rfl
theorem laidOut : laidOutB Try.prog = true := by kernel_rfl

set_option maxRecDepth 100000 in
set_option maxHeartbeats 1000000 in
theorem lifted (os : Os) (started : os.Started) (H : Type) (enc : TypeId × Value → H) :
    ReturnsInHanded {} Try.checked os 5 .any (Rows.modelDeepSpec.pre6 enc Try.prog Try.f5 Rows.modelDeepRow.domain false) (Rows.modelDeepSpec.post enc Try.prog Try.f5 false true false false) := by
  refine returnsInHanded_of_change (C := Try.checked) own started (by kernel_rfl) Try.func5
    (ChangeSpec.witness6 (enc := enc) (C := Try.checked) false ⟨#[], #[], []⟩ 8 (by kernel_rfl) (by kernel_rfl) (by kernel_rfl) (by kernel_rfl)) ?_
  intro W base args ds gs before hval0 hW hcnd _
  have hval : ∀ (j : Nat) t v, Try.f5.params[j]? = some t → args[j]? = some v → Value.okWide Try.prog W .any base t v := hval0
  have hW' := hW
  obtain ⟨p, q, hA0, hV, rfl, hfz, hnd⟩ := hW
  have hA : DataW.TrodAll enc Try.prog W 0 (fun _ => true) true Try.f5.params.toList args.toList ds p := hA0
  rw [Try.params5] at hA hval
  obtain ⟨hargs, rfl, rfl⟩ := trodAll_nil hA
  obtain rfl : args = #[] := by cases args; simp_all
  refine ((ModelDeep_c (h := W.heap)  (K := fun v h' => v = .bool true ∧ Ext W.heap h') (fun h' e => ⟨rfl, e⟩)).out W rfl).mono fun e W' ⟨v, he, hs, hv, hx⟩ => ?_
  exact ⟨v, he, hv ▸ law_post laidOut (by kernel_rfl) rfl (tb := 4) (by kernel_rfl) (by kernel_rfl) hW' (fun hg => by rw [hg]; rfl) (below_of hs hx)⟩

theorem proved : Rows.ModelDeepSaid :=
  OpenClaim.holds_of_wide 5 Try.f5 rfl rfl rfl rfl rfl rfl rfl ⟨rfl, rfl, rfl, rfl, rfl⟩ rfl rfl rfl rfl rfl (by kernel_rfl) Try.func5 (by kernel_rfl)
    (of_decide_eq_true (by kernel_rfl)) (by unfold Func.isWrapper; first | (rw [if_pos (by decide +kernel)]; kernel_rfl) | (rw [if_neg (by decide +kernel)]; exact ⟨rfl, rfl⟩))
    (fun os started H enc _ => lifted os started H enc)
end Go.Proofs.Ytcgboagadgehjaa.modelDeep
