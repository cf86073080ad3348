/- What is proved: the law palimpsestlaw11.TablesRead returns true for every input, and its arguments read as they did. No conditions. -/
import Derived.Test.YtgnmjcljljfldaaRows
import Derived.Test.YtgnmjcljljfldaaTab8
import Derived.Test.YtgnmjcljljfldaaRows7
import Derived.Test.YtgnmjcljljfldaaOwn77
set_option linter.unusedSimpArgs false
set_option linter.unusedVariables false
namespace Go.Proofs.Ytgnmjcljljfldaa
open Go.Vc
variable {K : Value → Heap → Prop} {h : Heap}

set_option maxHeartbeats 4000000 in
theorem TablesRead_c {v : Value} {l : List UInt8} {n b : Int} (hB : Bytes h v l) (hn : n < 9223372036854775808) (H : ∀ h', Ext h h' → K (.bool true) h') :
    CallsH Try.prog 4 #[.int .i64 b, v, .int .i64 n] h K ⟨⟩ := by
  obtain ⟨o, c0, rfl⟩ := hB.form
  refine n4_calls ?_
  unfold n4
  by_cases hl : (20000 : Int) < l.length
  · simp (disch := omega) [hl]
    exact Tknown_c H
  · simp (disch := omega) [hl]
    refine mk77 hB (by omega) fun B c h2 e2 hBB hc hO => ?_
    have hP := pre77 rfl hO
    simp (disch := omega)
    refine ReadSnaps_c hP.1 (by omega) hn fun v3 h3 e3 hO3 _ => ?_
    simp (disch := omega) only [Hp_extract0, Hp_extract1]
    refine ReadRows_c (hP.1.ext e3) (by omega) hn fun v4 h4 e4 hO4 _ => ?_
    have e24 := e3.trans e4
    have E4 := e2.trans e24
    replace hO3 := hO3.ext e4
    have hc77 := hcell_ext e24 hP.2
    have w1 := fun q K => Try.cv26_9 (q := q) (K := K) (hP.1.ext e24)
    have w2 := fun q K => Try.cv26_9 (q := q) (K := K) (hB.ext E4)
    by_cases hbad : ¬ (9 ≤ b ∧ b ≤ 16) ∨ n < 0
    · rw [readR_bits hbad] at hO3 ⊢
      rw [readM_bits hbad] at hO4 ⊢
      obtain ⟨o3, c3, rfl⟩ := hO3.sns.form
      obtain ⟨o4, c4, rfl⟩ := hO4.rws.form
      by_cases h9 : b < 9
      · simp (disch := omega) [w1, w2, hc77, byteV, h9]
        exact Tknown_c fun h6 e6 => by simp (disch := omega); exact H _ (E4.trans e6)
      · by_cases h16 : 16 < b
        · simp (disch := omega) [w1, w2, hc77, byteV, h9, h16]
          exact Tknown_c fun h6 e6 => by simp (disch := omega); exact H _ (E4.trans e6)
        · have hn0 : n < 0 := by omega
          simp (disch := omega) [w1, w2, hc77, byteV, h9, h16, hn0]
          exact Tknown_c fun h6 e6 => by simp (disch := omega); exact H _ (E4.trans e6)
    · have hb : 9 ≤ b ∧ b ≤ 16 := by omega
      have hn0 : 0 ≤ n := by omega
      simp (disch := omega) [w1, w2, hc77, byteV]
      refine RefReadSnaps_c (hB.ext E4) (by omega) hb hn0 hn (fun v5 h5 ys e5 hS5 hyl hy => ?_) (fun h5 e5 hno => ?_)
      all_goals
        simp (disch := omega) only [Hp_extract0, Hp_extract1]
        refine RefReadRows_c (hB.ext (E4.trans e5)) (by omega) hb hn0 hn (fun v6 h6 zs e6 hS6 hzl hz => ?_) (fun h6 e6 hno6 => ?_)
      · rw [readR_is hyl hy] at hO3 ⊢
        rw [readM_is hzl hz] at hO4 ⊢
        dsimp only at hO3 hO4 ⊢
        have hly := (putR_zero hy).2.2.1
        have hlz := (putM_zero hz).2.2.1
        simp (disch := omega)
        refine sameSnaps_c (hO3.sns.ext (e5.trans e6)) (hS5.ext e6) (by omega) (by omega) ?_
        simp (disch := omega)
        refine sameRows_c (hO4.rws.ext (e5.trans e6)) hS6 (by omega) (by omega) ?_
        simp (disch := omega)
        exact Tknown_c fun h7 e7 => by simp (disch := omega); exact H _ ((E4.trans (e5.trans e6)).trans e7)
      · rw [readR_is hyl hy] at hO3 ⊢
        rw [readM_no hb hn0 hno6] at hO4 ⊢
        dsimp only at hO3 hO4 ⊢
        have hly := (putR_zero hy).2.2.1
        obtain ⟨o4, c4, rfl⟩ := hO4.rws.form
        simp (disch := omega)
        refine sameSnaps_c (hO3.sns.ext (e5.trans e6)) (hS5.ext e6) (by omega) (by omega) ?_
        simp (disch := omega)
        exact Tknown_c fun h7 e7 => by simp (disch := omega); exact H _ ((E4.trans (e5.trans e6)).trans e7)
      · rw [readR_no hb hn0 hno] at hO3 ⊢
        rw [readM_is hzl hz] at hO4 ⊢
        dsimp only at hO3 hO4 ⊢
        have hlz := (putM_zero hz).2.2.1
        obtain ⟨o3, c3, rfl⟩ := hO3.sns.form
        simp (disch := omega)
        refine sameRows_c (hO4.rws.ext (e5.trans e6)) hS6 (by omega) (by omega) ?_
        simp (disch := omega)
        exact Tknown_c fun h7 e7 => by simp (disch := omega); exact H _ ((E4.trans (e5.trans e6)).trans e7)
      · rw [readR_no hb hn0 hno] at hO3 ⊢
        rw [readM_no hb hn0 hno6] at hO4 ⊢
        dsimp only at hO3 hO4 ⊢
        obtain ⟨o3, c3, rfl⟩ := hO3.sns.form
        obtain ⟨o4, c4, rfl⟩ := hO4.rws.form
        simp (disch := omega)
        exact Tknown_c fun h7 e7 => by simp (disch := omega); exact H _ ((E4.trans (e5.trans e6)).trans e7)
end Go.Proofs.Ytgnmjcljljfldaa
namespace Go.Proofs.Ytgnmjcljljfldaa.tablesRead
open Go.ChangeShapes Go.WideShapes Go.ChangeAt Go.RowKit Go.Joins Go.Vc

theorem own : ownKnob Try.prog.godebug = none := by kernel_rfl
theorem laidOut : laidOutB Try.prog = true := by kernel_rfl

set_option maxRecDepth 100000 in
set_option maxHeartbeats 1000000 in
theorem lifted (os : Os) (started : os.Started) (H : Type) (enc : TypeId × Value → H) :
    ReturnsInHanded {} Try.checked os 4 .any (Rows.tablesReadSpec.pre6 enc Try.prog Try.f4 Rows.tablesReadRow.domain false) (Rows.tablesReadSpec.post enc Try.prog Try.f4 false true false false) := by
  refine returnsInHanded_of_change (C := Try.checked) own started (by kernel_rfl) Try.func4
    (ChangeSpec.witness6 (enc := enc) (C := Try.checked) false ⟨#[], #[.int .i64 0, .slice none 0 0, .int .i64 0], []⟩ 8 (by kernel_rfl) (by kernel_rfl) (by kernel_rfl) (by kernel_rfl)) ?_
  intro W base args ds gs before hval0 hW hcnd _
  have hval : ∀ (j : Nat) t v, Try.f4.params[j]? = some t → args[j]? = some v → Value.okWide Try.prog W .any base t v := hval0
  have hW' := hW
  obtain ⟨p, q, hA0, hV, rfl, hfz, hnd⟩ := hW
  have hA : DataW.TrodAll enc Try.prog W 0 (fun _ => true) true Try.f4.params.toList args.toList ds p := hA0
  rw [Try.params4] at hA hval
  obtain ⟨v0, vs0, d0, ds0, p0, q0, hargs, rfl, rfl, h0, r0⟩ := trodAll_cons hA
  obtain ⟨v1, vs1, d1, ds1, p1, q1, rfl, rfl, rfl, h1, r1⟩ := trodAll_cons r0
  obtain ⟨v2, vs2, d2, ds2, p2, q2, rfl, rfl, rfl, h2, r2⟩ := trodAll_cons r1
  obtain ⟨rfl, rfl, rfl⟩ := trodAll_nil r2
  obtain rfl : args = #[v0, v1, v2] := by cases args; simp_all
  obtain ⟨b, rfl, _, _, wb⟩ := open_int (k := .i64) (by kernel_rfl) (hval 0 3 v0 rfl rfl) h0
  obtain ⟨l, hB, _⟩ := open_bytes (e := 5) (by kernel_rfl) (by kernel_rfl) (by kernel_rfl) (hval 1 26 v1 rfl rfl) h1
  obtain ⟨n, rfl, _, _, wn⟩ := open_int (k := .i64) (by kernel_rfl) (hval 2 3 v2 rfl rfl) h2
  simp [Lit.wf, IntKind.min, IntKind.max, IntKind.signed, IntKind.bits] at wn
  refine ((TablesRead_c (h := W.heap) hB (by omega) (K := fun v h' => v = .bool true ∧ Ext W.heap h') (fun h' e => ⟨rfl, e⟩)).out W rfl).mono fun e W' ⟨v, he, hs, hv, hx⟩ => ?_
  exact ⟨v, he, hv ▸ law_post laidOut (by kernel_rfl) rfl (tb := 4) (by kernel_rfl) (by kernel_rfl) hW' (fun hg => by rw [hg]; rfl) (below_of hs hx)⟩

theorem proved : Rows.TablesReadSaid :=
  OpenClaim.holds_of_wide 4 Try.f4 rfl rfl rfl rfl rfl rfl rfl ⟨rfl, rfl, rfl, rfl, rfl⟩ rfl rfl rfl rfl rfl (by kernel_rfl) Try.func4 (by kernel_rfl)
    (of_decide_eq_true (by kernel_rfl)) (by unfold Func.isWrapper; first | (rw [if_pos (by decide +kernel)]; kernel_rfl) | (rw [if_neg (by decide +kernel)]; exact ⟨rfl, rfl⟩))
    (fun os started H enc _ => lifted os started H enc)
end Go.Proofs.Ytgnmjcljljfldaa.tablesRead
