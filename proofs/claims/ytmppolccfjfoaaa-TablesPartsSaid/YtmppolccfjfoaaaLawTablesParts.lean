/- What is proved: the law palimpsestlaw11.TablesParts returns true for every input, and its arguments read as they did. No conditions. -/
import Derived.Test.YtmppolccfjfoaaaRows
import Derived.Test.YtmppolccfjfoaaaTab8
set_option linter.unusedSimpArgs false
set_option linter.unusedVariables false
namespace Go.Proofs.Ytmppolccfjfoaaa
open Go.Vc
variable {K : Value → Heap → Prop} {h : Heap}

theorem rdN_pre {l C : List UInt8} {ys : List Sn} {b : Int} (hk : ∀ x ∈ ys, SnOk x b) (hl : l = SnsB ys ++ C) : ∀ i, i ≤ ys.length → rdN l i = (ys.take i, (SnsB (ys.take i)).length, true)
  | 0, _ => by simp [rdN, SnsB]
  | i + 1, hi => by
    have ih := rdN_pre hk hl i (by omega)
    have hs : l = SnsB (ys.take i) ++ (ys[i].bytes ++ (SnsB (ys.drop (i + 1)) ++ C)) := by
      rw [hl]
      have h1 : ys = ys.take i ++ (ys[i] :: ys.drop (i + 1)) := by rw [← List.drop_eq_getElem_cons (by omega), List.take_append_drop]
      unfold SnsB
      rw [← List.append_assoc (ys[i].bytes), ← List.flatMap_cons, ← List.append_assoc, ← List.flatMap_append, ← h1]
    have hat := snapV_at (A := SnsB (ys.take i)) (C := SnsB (ys.drop (i + 1)) ++ C) (hk ys[i] (List.getElem_mem _))
    rw [← hs] at hat
    unfold rdN
    rw [ih]
    dsimp only
    rw [hat, SnsB_take (by omega), List.length_append, List.take_succ_eq_append_getElem (by omega)]

theorem part_no {xs : List Sn} {b : Int} {l : List UInt8} {k : Nat} (hp : putR xs b = (l, 0)) (hk : k < l.length) : readR (l.take k) xs.length b = ([], 210) := by
  obtain ⟨hb, g, -, hl⟩ := putR_zero hp
  refine readR_no hb (by omega) fun ⟨ys, h1, h2⟩ => ?_
  obtain ⟨-, g2, -, hl2⟩ := putR_zero h2
  have e1 := rdN_of hp
  have e2 := rdN_pre (l := l) (C := l.drop k) g2.1 (by rw [← hl2, List.take_append_drop]) ys.length (Nat.le_refl _)
  rw [show ys.length = xs.length by omega, e1] at e2
  have e3 := congrArg (fun x => x.2.1) e2
  dsimp only at e3
  rw [show xs.length = ys.length by omega, List.take_length, ← hl2] at e3
  simp at e3
  omega
theorem more_no {xs : List Sn} {b : Int} {l : List UInt8} (hp : putR xs b = (l, 0)) : readR l (xs.length + 1 : Nat) b = ([], 210) := by
  obtain ⟨hb, g, -, hl⟩ := putR_zero hp
  refine readR_no hb (by omega) fun ⟨ys, h1, h2⟩ => ?_
  obtain ⟨-, g2, -, hl2⟩ := putR_zero h2
  have e1 := rdN_of hp
  have e2 := rdN_good g2.1 hl2 xs.length (by omega)
  rw [e1] at e2
  have e3 := congrArg (fun x => x.2.1) e2
  dsimp only at e3
  have hlt : xs.length < ys.length := by omega
  have h4 := SnsB_take hlt
  have h5 := Sn.bytes_ge (g2.1 _ (List.getElem_mem hlt))
  rw [show xs.length + 1 = ys.length by omega, List.take_length, ← hl2] at h4
  have h6 := congrArg List.length h4
  simp only [List.length_append] at h6
  omega
theorem less_no {xs : List Sn} {b : Int} {l : List UInt8} (hp : putR xs b = (l, 0)) (h0 : 0 < xs.length) : readR l (xs.length - 1 : Nat) b = ([], 210) := by
  obtain ⟨hb, g, -, hl⟩ := putR_zero hp
  refine readR_no hb (by omega) fun ⟨ys, h1, h2⟩ => ?_
  have e1 := rdN_of h2
  have e2 := rdN_good g.1 hl ys.length (by omega)
  rw [e1] at e2
  have e3 := congrArg (fun x => x.2.1) e2
  dsimp only at e3
  have hlt : ys.length < xs.length := by omega
  have h4 := SnsB_take hlt
  have h5 := Sn.bytes_ge (g.1 _ (List.getElem_mem hlt))
  rw [show ys.length + 1 = xs.length by omega, List.take_length, ← hl] at h4
  have h6 := congrArg List.length h4
  simp only [List.length_append] at h6
  omega

set_option maxHeartbeats 4000000 in
theorem TablesParts_c {v : Value} {xs : List Sn} {b cut : Int} (hS : Sns h v xs) (hcut : -9223372036854775808 ≤ cut ∧ cut < 9223372036854775808) (H : ∀ h', Ext h h' → K (.bool true) h') :
    CallsH Try.prog 13 #[.int .i64 b, v, .int .i64 cut] h K ⟨⟩ := by
  obtain ⟨o, c0, rfl⟩ := hS.form
  refine n13_calls ?_
  unfold n13
  by_cases hl : (100 : Int) < xs.length
  · simp (disch := omega) [hl]
    exact Tknown_c H
  · simp (disch := omega) [hl]
    refine Snaps_c hS (by omega) fun v1 h1 e1 hB _ => ?_
    obtain ⟨o1, c1, hv1⟩ := hB.form
    by_cases hz : (putR xs b).2 = 0
    · have hput : putR xs b = ((putR xs b).1, 0) := Prod.ext rfl hz
      generalize hL : (putR xs b).1 = l at *
      obtain ⟨hb, g, h64, hl2⟩ := putR_zero hput
      have hle := SnsB_le g.1
      have hge := SnsB_ge g.1
      rw [← hl2] at hle hge
      by_cases hl0 : l.length = 0
      · have hx0 : xs = [] := List.length_eq_zero_iff.1 (by omega)
        have hr : readR l 0 b = ([], 0) := by
          have := readR_is (n := 0) (by rw [hx0]; rfl) hput
          rw [hx0] at this; exact this
        simp (disch := omega) [hz, hv1, hl0]
        rw [hl0] at hv1
        rw [hv1] at hB
        refine ReadSnaps_c hB (by omega) (by omega) fun v2 h2 e2 hO2 _ => ?_
        rw [hr] at hO2 ⊢
        obtain ⟨o2, c2, rfl⟩ := hO2.sns.form
        simp (disch := omega)
        refine Tknown_c fun h6 e6 => ?_
        simp (disch := omega)
        exact H _ ((e1.trans e2).trans e6)
      · obtain ⟨L, hLL⟩ : ∃ L, L = l.length := ⟨_, rfl⟩
        have hm1 := Int.lt_tmod_of_pos cut (show (0 : Int) < L by omega)
        have hm2 := Int.tmod_lt_of_pos cut (show (0 : Int) < L by omega)
        obtain ⟨k, hk⟩ := Int.eq_ofNat_of_zero_le (Int.emod_nonneg (cut.tmod L + L) (show (L : Int) ≠ 0 by omega))
        have hk2 := Int.emod_lt_of_pos (cut.tmod L + L) (show (0 : Int) < L by omega)
        rw [← hLL] at hv1 hl0
        have hl0' : ¬ (L : Int) = 0 := by omega
        rw [hv1] at hB
        obtain ⟨a, rfl, -, hc, hA⟩ := hB.at (by omega)
        have hBk : Bytes h1 (.slice (some a) k c1) (l.take k) := .inr ⟨a, c1, by congr 1; simp; omega, by simp; omega, by simpa using hA.part 0 k c1 (by omega) (by omega) hc⟩
        simp (disch := omega) [hz, hv1, hl0', Hp_rem, hk]
        refine ReadSnaps_c hBk (by simp; omega) (by omega) fun v2 h2 e2 hO2 _ => ?_
        rw [part_no hput (by omega)] at hO2 ⊢
        simp (disch := omega)
        refine ReadSnaps_c (hB.ext e2) (by omega) (by omega) fun v3 h3 e3 hO3 _ => ?_
        rw [show ((xs.length : Int) + 1) = ((xs.length + 1 : Nat) : Int) by omega, more_no hput] at hO3 ⊢
        simp (disch := omega)
        refine ReadSnaps_c ((hB.ext e2).ext e3) (by omega) (by omega) fun v4 h4 e4 hO4 _ => ?_
        rw [show ((xs.length : Int) - 1) = ((xs.length - 1 : Nat) : Int) by omega, less_no hput (by omega)] at hO4 ⊢
        obtain ⟨o2, c2, rfl⟩ := hO2.sns.form
        obtain ⟨o3, c3, rfl⟩ := hO3.sns.form
        obtain ⟨o4, c4, rfl⟩ := hO4.sns.form
        simp (disch := omega)
        refine Tknown_c fun h6 e6 => ?_
        simp (disch := omega)
        exact H _ ((((e1.trans e2).trans e3).trans e4).trans e6)
    · have hl0 : (putR xs b).1.length = 0 := by
        unfold putR at hz ⊢
        split
        · rfl
        · rename_i h1
          rw [if_neg h1] at hz
          split
          · rename_i h2
            rw [if_pos h2] at hz
            split
            · rfl
            · rename_i h3
              rw [if_neg h3] at hz
              exact absurd rfl hz
          · rfl
      simp (disch := omega) [hz, hv1, hl0]
      refine Tknown_c fun h6 e6 => ?_
      simp (disch := omega)
      exact H _ (e1.trans e6)
end Go.Proofs.Ytmppolccfjfoaaa
namespace Go.Proofs.Ytmppolccfjfoaaa.tablesParts
open Go.ChangeShapes Go.WideShapes Go.ChangeAt Go.RowKit Go.Joins Go.Vc

theorem own : ownKnob Try.prog.godebug = none := by kernel_rfl
theorem laidOut : laidOutB Try.prog = true := by kernel_rfl

set_option maxRecDepth 100000 in
set_option maxHeartbeats 1000000 in
theorem lifted (os : Os) (started : os.Started) (H : Type) (enc : TypeId × Value → H) :
    ReturnsInHanded {} Try.checked os 13 .any (Rows.tablesPartsSpec.pre6 enc Try.prog Try.f13 Rows.tablesPartsRow.domain false) (Rows.tablesPartsSpec.post enc Try.prog Try.f13 false true false false) := by
  refine returnsInHanded_of_change (C := Try.checked) own started (by kernel_rfl) Try.func13
    (ChangeSpec.witness6 (enc := enc) (C := Try.checked) false ⟨#[], #[.int .i64 0, .slice none 0 0, .int .i64 0], []⟩ 8 (by kernel_rfl) (by kernel_rfl) (by kernel_rfl) (by kernel_rfl)) ?_
  intro W base args ds gs before hval0 hW hcnd _
  have hval : ∀ (j : Nat) t v, Try.f13.params[j]? = some t → args[j]? = some v → Value.okWide Try.prog W .any base t v := hval0
  have hW' := hW
  obtain ⟨p, q, hA0, hV, rfl, hfz, hnd⟩ := hW
  have hA : DataW.TrodAll enc Try.prog W 0 (fun _ => true) true Try.f13.params.toList args.toList ds p := hA0
  rw [Try.params13] at hA hval
  obtain ⟨v0, vs0, d0, ds0, p0, q0, hargs, rfl, rfl, h0, r0⟩ := trodAll_cons hA
  obtain ⟨v1, vs1, d1, ds1, p1, q1, rfl, rfl, rfl, h1, r1⟩ := trodAll_cons r0
  obtain ⟨v2, vs2, d2, ds2, p2, q2, rfl, rfl, rfl, h2, r2⟩ := trodAll_cons r1
  obtain ⟨rfl, rfl, rfl⟩ := trodAll_nil r2
  obtain rfl : args = #[v0, v1, v2] := by cases args; simp_all
  obtain ⟨b, rfl, _, _, wb⟩ := open_int (k := .i64) (by kernel_rfl) (hval 0 3 v0 rfl rfl) h0
  obtain ⟨v, ws, hv, hF, _⟩ := (Laid.top (hval 1 101 v1 rfl rfl) h1 (by kernel_rfl)).slice (e := 103) (R := fun us (x : Sn) => us = x.cells ∧ x.name.length ≤ maxLen) (by kernel_rfl)
    (fun us hu => by
      obtain ⟨hl, hL⟩ := hu.flds (L := [(9, 0, 1), (2, 1, 1), (3, 2, 1), (2, 3, 1)]) (n := 4) (by kernel_rfl) (by kernel_rfl)
      obtain ⟨c0, c1, c2, c3, rfl⟩ := len4 hl
      obtain ⟨nm, hn, hnl⟩ := (hL 0 _ _ _ rfl).str (by kernel_rfl)
      obtain ⟨l1, hl1, -⟩ := (hL 1 _ _ _ rfl).int (k := .i64) (by kernel_rfl)
      obtain ⟨m, hm, -⟩ := (hL 2 _ _ _ rfl).int (k := .i64) (by kernel_rfl)
      obtain ⟨s, hs, -⟩ := (hL 3 _ _ _ rfl).int (k := .i64) (by kernel_rfl)
      obtain rfl : c0 = str nm := by simpa using hn
      obtain rfl : c1 = .int .i64 l1 := by simpa using hl1
      obtain rfl : c2 = .int .i64 m := by simpa using hm
      obtain rfl : c3 = .int .i64 s := by simpa using hs
      exact ⟨⟨nm, l1, m, s⟩, rfl, hnl⟩)
  obtain rfl : v1 = v := by simpa using hv
  have hS : Sns W.heap v1 ws := Slc.mono hF (fun _ _ => rfl) (fun _ _ h => h.1)
  obtain ⟨cut, rfl, _, _, wc⟩ := open_int (k := .i64) (by kernel_rfl) (hval 2 3 v2 rfl rfl) h2
  simp [Lit.wf, IntKind.min, IntKind.max, IntKind.signed, IntKind.bits] at wc
  refine ((TablesParts_c (h := W.heap) hS (by omega) (K := fun v h' => v = .bool true ∧ Ext W.heap h') (fun h' e => ⟨rfl, e⟩)).out W rfl).mono fun e W' ⟨v, he, hs, hv, hx⟩ => ?_
  exact ⟨v, he, hv ▸ law_post laidOut (by kernel_rfl) rfl (tb := 4) (by kernel_rfl) (by kernel_rfl) hW' (fun hg => by rw [hg]; rfl) (below_of hs hx)⟩

theorem proved : Rows.TablesPartsSaid :=
  OpenClaim.holds_of_wide 13 Try.f13 rfl rfl rfl rfl rfl rfl rfl ⟨rfl, rfl, rfl, rfl, rfl⟩ rfl rfl rfl rfl rfl (by kernel_rfl) Try.func13 (by kernel_rfl)
    (of_decide_eq_true (by kernel_rfl)) (by unfold Func.isWrapper; first | (rw [if_pos (by decide +kernel)]; kernel_rfl) | (rw [if_neg (by decide +kernel)]; exact ⟨rfl, rfl⟩))
    (fun os started H enc _ => lifted os started H enc)
end Go.Proofs.Ytmppolccfjfoaaa.tablesParts
