/- What is proved: the law palimpsestlaw11.TablesFind returns true for every input, and its arguments read as they did. No conditions. -/
import Derived.Test.YtmppolccfjfoaaaRows
import Derived.Test.YtmppolccfjfoaaaTab9
set_option linter.unusedSimpArgs false
set_option linter.unusedVariables false
namespace Go.Proofs.Ytmppolccfjfoaaa
open Go.Vc
variable {K : Value → Heap → Prop} {h : Heap}

theorem last_step {N : List (List UInt8)} {nm : List UInt8} {k at' : Nat} {yes : Bool} (hk : k < N.length)
    (h : (yes = true ∧ ∃ hi : at' < N.length, k + 1 ≤ at' ∧ N[at'] = nm ∧ ∀ j (hj : j < N.length), k + 1 ≤ j → j < at' → N[j] ≠ nm) ∨ (yes = false ∧ at' = 0 ∧ ∀ j (hj : j < N.length), k + 1 ≤ j → N[j] ≠ nm)) :
    (N[k] = nm → ((true = true) ∧ ∃ hi : k < N.length, k ≤ k ∧ N[k] = nm ∧ ∀ j (hj : j < N.length), k ≤ j → j < k → N[j] ≠ nm)) ∧
    (N[k] ≠ nm → (yes = true ∧ ∃ hi : at' < N.length, k ≤ at' ∧ N[at'] = nm ∧ ∀ j (hj : j < N.length), k ≤ j → j < at' → N[j] ≠ nm) ∨ (yes = false ∧ at' = 0 ∧ ∀ j (hj : j < N.length), k ≤ j → N[j] ≠ nm)) := by
  refine ⟨fun e => ⟨rfl, hk, Nat.le_refl _, e, fun j _ h1 h2 => by omega⟩, fun e => ?_⟩
  rcases h with ⟨rfl, hi, h1, h2, h3⟩ | ⟨rfl, rfl, h1⟩
  · refine .inl ⟨rfl, hi, by omega, h2, fun j hj h4 h5 => ?_⟩
    by_cases ej : j = k
    · subst ej; exact e
    · exact h3 j hj (by omega) h5
  · refine .inr ⟨rfl, rfl, fun j hj h4 => ?_⟩
    by_cases ej : j = k
    · subst ej; exact e
    · exact h1 j hj (by omega)
def LastF (N : List (List UInt8)) (nm : List UInt8) (k at' : Nat) (yes : Bool) : Prop :=
  (yes = true ∧ ∃ hi : at' < N.length, k ≤ at' ∧ N[at'] = nm ∧ ∀ j (hj : j < N.length), k ≤ j → j < at' → N[j] ≠ nm) ∨ (yes = false ∧ at' = 0 ∧ ∀ j (hj : j < N.length), k ≤ j → N[j] ≠ nm)
theorem LastF.first {N : List (List UInt8)} {nm : List UInt8} {a : Nat} {y : Bool} (h : LastF N nm 0 a y) : IsFirst N nm a y := by
  rcases h with ⟨rfl, hi, -, h2, h3⟩ | ⟨rfl, rfl, h1⟩
  · exact .inl ⟨rfl, hi, h2, fun j hj hja => h3 j hj (by omega) hja⟩
  · exact .inr ⟨rfl, rfl, fun j hj => h1 j hj (by omega)⟩

set_option maxHeartbeats 4000000 in
theorem TablesFind_c {v w : Value} {xs : List Sn} {ys : List Rw} {nm : List UInt8} (hS : Sns h v xs) (hR : Rws h w ys) (hxl : xs.length < 9223372036854775808) (hyl : ys.length < 9223372036854775808) (H : ∀ h', Ext h h' → K (.bool true) h') :
    CallsH Try.prog 14 #[v, w, str nm] h K ⟨⟩ := by
  obtain ⟨o, c0, rfl⟩ := hS.form
  obtain ⟨o2, c2, rfl⟩ := hR.form
  refine n14_calls ?_
  unfold n14
  by_cases hl : (200 : Int) < xs.length
  · simp (disch := omega) [hl]
    exact Tknown_c H
  · by_cases hl2 : (200 : Int) < ys.length
    · simp (disch := omega) [hl, hl2]
      exact Tknown_c H
    · simp (disch := omega) [hl, hl2]
      refine FindSnap_c hS (by omega) fun h1 i f e1 hF => ?_
      simp (disch := omega)
      refine FindRow_c (hR.ext e1) (by omega) fun h2 j g e2 hG => ?_
      have E2 := e1.trans e2
      simp (disch := omega)
      refine loopA3 (fun a : Nat × Bool × Nat => .int .i64 a.1) (fun a => .bool a.2.1) (fun a => .int .i64 ((a.2.2 : Int) - 1)) (fun a h' => h' = h2 ∧ a.2.2 ≤ (xs).length ∧ LastF ((xs).map Sn.name) nm a.2.2 a.1 a.2.1) (fun a => a.2.2) (0, false, (xs).length) ⟨rfl, rfl, by simp⟩ ⟨rfl, by simp, .inr ⟨rfl, rfl, fun j hj h1 => by simp at hj h1; omega⟩⟩ ?_
      rintro ⟨at', yes, k⟩ h3 ⟨rfl, hk, hL⟩
      dsimp only at hk hL
      by_cases hk0 : k = 0
      · subst hk0
        have hu := hF.uniq hL.first
        have hu1 := hu.1
        have hu2 := hu.2
        simp (disch := omega) [hu1, hu2]
        refine loopA3 (fun a : Nat × Bool × Nat => .int .i64 a.1) (fun a => .bool a.2.1) (fun a => .int .i64 ((a.2.2 : Int) - 1)) (fun a h' => h' = h3 ∧ a.2.2 ≤ (ys).length ∧ LastF ((ys).map Rw.name) nm a.2.2 a.1 a.2.1) (fun a => a.2.2) (0, false, (ys).length) ⟨rfl, rfl, by simp⟩ ⟨rfl, by simp, .inr ⟨rfl, rfl, fun j hj h1 => by simp at hj h1; omega⟩⟩ ?_
        rintro ⟨at', yes, k⟩ h4 ⟨rfl, hk, hL⟩
        dsimp only at hk hL
        by_cases hk0 : k = 0
        · subst hk0
          have hu := hG.uniq hL.first
          have hu1 := hu.1
          have hu2 := hu.2
          simp (disch := omega) [hu1, hu2]
          refine Tknown_c fun h6 e6 => ?_
          simp (disch := omega)
          exact H _ (E2.trans e6)
        · have hkl : k - 1 < (ys).length := by omega
          obtain ⟨a, rfl, -, hc⟩ := (hR).some (by omega)
          have hcs := ((hR).ext E2).cell (k - 1) hkl
          have hst := last_step (N := (ys).map Rw.name) (k := k - 1) (by simpa using hkl) (by rw [show k - 1 + 1 = k by omega]; exact hL)
          have t1 : ((k : Int) - 1).toNat = k - 1 := by omega
          simp (disch := omega) [t1, hcs.1]
          refine JoinN.mk (JoinN.mk ?_)
          simp (disch := omega) [t1, hcs.1]
          refine Split.mk (fun he => ?_) (fun he => ?_)
          · rw [CondP_true]
            simp (disch := omega)
            exact ⟨k - 1, by omega, k - 1, by omega, ⟨by omega, .inl (hst.1 (by rw [List.getElem_map]; exact he))⟩, by omega⟩
          · rw [CondP_false]
            simp (disch := omega)
            exact ⟨at', rfl, k - 1, by omega, ⟨by omega, hst.2 (by rw [List.getElem_map]; exact he)⟩, by omega⟩
      · have hkl : k - 1 < (xs).length := by omega
        obtain ⟨a, rfl, -, hc⟩ := (hS).some (by omega)
        have hcs := ((hS).ext E2).cell (k - 1) hkl
        have hst := last_step (N := (xs).map Sn.name) (k := k - 1) (by simpa using hkl) (by rw [show k - 1 + 1 = k by omega]; exact hL)
        have t1 : ((k : Int) - 1).toNat = k - 1 := by omega
        simp (disch := omega) [t1, hcs.1]
        refine JoinN.mk (JoinN.mk ?_)
        simp (disch := omega) [t1, hcs.1]
        refine Split.mk (fun he => ?_) (fun he => ?_)
        · rw [CondP_true]
          simp (disch := omega)
          exact ⟨k - 1, by omega, k - 1, by omega, ⟨by omega, .inl (hst.1 (by rw [List.getElem_map]; exact he))⟩, by omega⟩
        · rw [CondP_false]
          simp (disch := omega)
          exact ⟨at', rfl, k - 1, by omega, ⟨by omega, hst.2 (by rw [List.getElem_map]; exact he)⟩, by omega⟩
end Go.Proofs.Ytmppolccfjfoaaa
namespace Go.Proofs.Ytmppolccfjfoaaa.tablesFind
open Go.ChangeShapes Go.WideShapes Go.ChangeAt Go.RowKit Go.Joins Go.Vc

theorem own : ownKnob Try.prog.godebug = none := by kernel_rfl
theorem laidOut : laidOutB Try.prog = true := by kernel_rfl

set_option maxRecDepth 100000 in
set_option maxHeartbeats 1000000 in
theorem lifted (os : Os) (started : os.Started) (H : Type) (enc : TypeId × Value → H) :
    ReturnsInHanded {} Try.checked os 14 .any (Rows.tablesFindSpec.pre6 enc Try.prog Try.f14 Rows.tablesFindRow.domain false) (Rows.tablesFindSpec.post enc Try.prog Try.f14 false true false false) := by
  refine returnsInHanded_of_change (C := Try.checked) own started (by kernel_rfl) Try.func14
    (ChangeSpec.witness6 (enc := enc) (C := Try.checked) false ⟨#[], #[.slice none 0 0, .slice none 0 0, .string ⟨#[]⟩], []⟩ 8 (by kernel_rfl) (by kernel_rfl) (by kernel_rfl) (by kernel_rfl)) ?_
  intro W base args ds gs before hval0 hW hcnd _
  have hval : ∀ (j : Nat) t v, Try.f14.params[j]? = some t → args[j]? = some v → Value.okWide Try.prog W .any base t v := hval0
  have hW' := hW
  obtain ⟨p, q, hA0, hV, rfl, hfz, hnd⟩ := hW
  have hA : DataW.TrodAll enc Try.prog W 0 (fun _ => true) true Try.f14.params.toList args.toList ds p := hA0
  rw [Try.params14] at hA hval
  obtain ⟨v0, vs0, d0, ds0, p0, q0, hargs, rfl, rfl, h0, r0⟩ := trodAll_cons hA
  obtain ⟨v1, vs1, d1, ds1, p1, q1, rfl, rfl, rfl, h1, r1⟩ := trodAll_cons r0
  obtain ⟨v2, vs2, d2, ds2, p2, q2, rfl, rfl, rfl, h2, r2⟩ := trodAll_cons r1
  obtain ⟨rfl, rfl, rfl⟩ := trodAll_nil r2
  obtain rfl : args = #[v0, v1, v2] := by cases args; simp_all
  obtain ⟨u0, xs, hv0, hF0, hml0⟩ := (Laid.top (hval 0 101 v0 rfl rfl) h0 (by kernel_rfl)).slice (e := 103) (R := fun us (x : Sn) => us = x.cells) (by kernel_rfl)
    (fun us hu => by
      obtain ⟨hl, hL⟩ := hu.flds (L := [(9, 0, 1), (2, 1, 1), (3, 2, 1), (2, 3, 1)]) (n := 4) (by kernel_rfl) (by kernel_rfl)
      obtain ⟨c0, c1, c2, c3, rfl⟩ := len4 hl
      obtain ⟨x0, hx0, -⟩ := (hL 0 _ _ _ rfl).str (by kernel_rfl)
      obtain ⟨x1, hx1, -⟩ := (hL 1 _ _ _ rfl).int (k := .i64) (by kernel_rfl)
      obtain ⟨x2, hx2, -⟩ := (hL 2 _ _ _ rfl).int (k := .i64) (by kernel_rfl)
      obtain ⟨x3, hx3, -⟩ := (hL 3 _ _ _ rfl).int (k := .i64) (by kernel_rfl)
      obtain rfl : c0 = str x0 := by simpa using hx0
      obtain rfl : c1 = .int .i64 x1 := by simpa using hx1
      obtain rfl : c2 = .int .i64 x2 := by simpa using hx2
      obtain rfl : c3 = .int .i64 x3 := by simpa using hx3
      exact ⟨⟨x0, x1, x2, x3⟩, rfl⟩)
  obtain rfl : v0 = u0 := by simpa using hv0
  obtain ⟨u1, ys, hv1, hF1, hml1⟩ := (Laid.top (hval 1 111 v1 rfl rfl) h1 (by kernel_rfl)).slice (e := 116) (R := fun us (x : Rw) => us = x.cells) (by kernel_rfl)
    (fun us hu => by
      obtain ⟨hl, hL⟩ := hu.flds (L := [(9, 0, 1), (3, 1, 1), (3, 2, 1), (2, 3, 1), (3, 4, 1)]) (n := 5) (by kernel_rfl) (by kernel_rfl)
      obtain ⟨c0, c1, c2, c3, c4, rfl⟩ := len5 hl
      obtain ⟨x0, hx0, -⟩ := (hL 0 _ _ _ rfl).str (by kernel_rfl)
      obtain ⟨x1, hx1, -⟩ := (hL 1 _ _ _ rfl).int (k := .i64) (by kernel_rfl)
      obtain ⟨x2, hx2, -⟩ := (hL 2 _ _ _ rfl).int (k := .i64) (by kernel_rfl)
      obtain ⟨x3, hx3, -⟩ := (hL 3 _ _ _ rfl).int (k := .i64) (by kernel_rfl)
      obtain ⟨x4, hx4, -⟩ := (hL 4 _ _ _ rfl).int (k := .i64) (by kernel_rfl)
      obtain rfl : c0 = str x0 := by simpa using hx0
      obtain rfl : c1 = .int .i64 x1 := by simpa using hx1
      obtain rfl : c2 = .int .i64 x2 := by simpa using hx2
      obtain rfl : c3 = .int .i64 x3 := by simpa using hx3
      obtain rfl : c4 = .int .i64 x4 := by simpa using hx4
      exact ⟨⟨x0, x1, x2, x3, x4⟩, rfl⟩)
  obtain rfl : v1 = u1 := by simpa using hv1
  obtain ⟨nm, hnm, _⟩ := (Laid.top (hval 2 9 v2 rfl rfl) h2 (by kernel_rfl)).str (by kernel_rfl)
  obtain rfl : v2 = str nm := by simpa using hnm
  have hm0 : maxLen < 9223372036854775808 := by decide
  refine ((TablesFind_c (h := W.heap) hF0 hF1 (by omega) (by omega) (K := fun v h' => v = .bool true ∧ Ext W.heap h') (fun h' e => ⟨rfl, e⟩)).out W rfl).mono fun e W' ⟨v, he, hs, hv, hx⟩ => ?_
  exact ⟨v, he, hv ▸ law_post laidOut (by kernel_rfl) rfl (tb := 4) (by kernel_rfl) (by kernel_rfl) hW' (fun hg => by rw [hg]; rfl) (below_of hs hx)⟩

theorem proved : Rows.TablesFindSaid :=
  OpenClaim.holds_of_wide 14 Try.f14 rfl rfl rfl rfl rfl rfl rfl ⟨rfl, rfl, rfl, rfl, rfl⟩ rfl rfl rfl rfl rfl (by kernel_rfl) Try.func14 (by kernel_rfl)
    (of_decide_eq_true (by kernel_rfl)) (by unfold Func.isWrapper; first | (rw [if_pos (by decide +kernel)]; kernel_rfl) | (rw [if_neg (by decide +kernel)]; exact ⟨rfl, rfl⟩))
    (fun os started H enc _ => lifted os started H enc)
end Go.Proofs.Ytmppolccfjfoaaa.tablesFind
