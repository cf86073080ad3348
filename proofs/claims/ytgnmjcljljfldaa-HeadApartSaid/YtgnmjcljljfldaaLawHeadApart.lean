/- What is proved: the law palimpsestlaw08.HeadApart returns true for every input, and its arguments read as they did. No conditions. -/
import Derived.Test.YtgnmjcljljfldaaRows
import Derived.Test.YtgnmjcljljfldaaHead8
import Derived.Test.YtgnmjcljljfldaaHeadOpen
set_option linter.unusedSimpArgs false
set_option linter.unusedVariables false
namespace Go.Proofs.Ytgnmjcljljfldaa
open Go.Vc
variable {K : Value → Heap → Prop} {h : Heap}

set_option maxHeartbeats 4000000 in
theorem HeadApart_c {x y : Hd} (H : ∀ h', Ext h h' → K (.bool true) h') : CallsH Try.prog 6 #[x.val, y.val] h K ⟨⟩ := by
  refine n6_calls ?_
  unfold n6
  rw [boxH]
  have hA := HdAt.new (h := h) x
  have e1 : Ext h (h.push (.cells x.cells.toArray 47)) := (by repeat' (first | (with_reducible exact Ext.refl _) | (with_reducible assumption) | (with_reducible refine push_ext ?_) | (with_reducible refine hset_ext ?_ ?_) | (with_reducible refine Ext.trans ?_ (by assumption)) | omega | (simp; done) | (simp; omega) | (refine Ext.size ?_) | (refine Nat.le_succ_of_le (Ext.size ?_))))
  generalize h.push (.cells x.cells.toArray 47) = g at *
  rw [boxH]
  have hB := HdAt.new (h := g) y
  have e2 : Ext g (g.push (.cells y.cells.toArray 47)) := (by repeat' (first | (with_reducible exact Ext.refl _) | (with_reducible assumption) | (with_reducible refine push_ext ?_) | (with_reducible refine hset_ext ?_ ?_) | (with_reducible refine Ext.trans ?_ (by assumption)) | omega | (simp; done) | (simp; omega) | (refine Ext.size ?_) | (refine Nat.le_succ_of_le (Ext.size ?_))))
  generalize g.push (.cells y.cells.toArray 47) = g2 at *
  replace hA := hA.ext e2
  have a14 := hA.2.2.2.2.2.2.2.2.2.2.2.2.2.2
  have b14 := hB.2.2.2.2.2.2.2.2.2.2.2.2.2.2
  have E2 := e1.trans e2
  by_cases la : 1000 < x.back.length
  · skip
    simp (disch := omega) [-Try.st47, -Try.ld47, a14, la]
    exact Hknown_c fun hk ek => H _ (E2.trans ek)
  by_cases lb : 1000 < y.back.length
  · skip
    simp (disch := omega) [-Try.st47, -Try.ld47, a14, b14, la, lb]
    exact Hknown_c fun hk ek => H _ (E2.trans ek)
  simp (disch := omega) [-Try.st47, -Try.ld47, a14, b14, la, lb]
  rw [loadH hA]
  refine HBytes_c (fun v3 h3 e3 hO3 hF3 hMx => ?_) (fun h3 e3 hMx => ?_)
  · have hA3 := hA.ext e3
    have hB3 := hB.ext e3
    simp only [Hp_extract0, Hp_extract1]
    rw [loadH hB3]
    refine HBytes_c (fun v4 h4 e4 hO4 hF4 hMy => ?_) (fun h4 e4 hMy => ?_)
    · have hA4 := hA3.ext e4
      have hB4 := hB3.ext e4
      have w3 := fun q K => Try.cv26_9 (q := q) (K := K) (hO3.ext e4).bytes
      have w4 := fun q K => Try.cv26_9 (q := q) (K := K) hO4.bytes
      have lx := fun q K => loadH (q := q) (K := K) hA4
      have ly := fun q K => loadH (q := q) (K := K) hB4
      by_cases exy : x = y
      · have eb : hdB x = hdB y := by rw [exy]
        simp (disch := omega) [-Try.st47, -Try.ld47, w3, w4, lx, ly, eqlH, exy, eb]
        refine Hknown_c fun hk ek => ?_
        simp (disch := omega)
        exact H _ (Ext.trans ((E2.trans e3).trans e4) ek)
      · have eb : ¬ hdB x = hdB y := fun e => exy (hdB_inj hMx hMy e)
        simp (disch := omega) [-Try.st47, -Try.ld47, w3, w4, lx, ly, eqlH, exy, eb]
        refine Hknown_c fun hk ek => ?_
        simp (disch := omega)
        exact H _ (Ext.trans ((E2.trans e3).trans e4) ek)
    · have hA4 := hA3.ext e4
      have hB4 := hB3.ext e4
      have lx := fun q K => loadH (q := q) (K := K) hA4
      simp (disch := omega) [-Try.st47, -Try.ld47, lx]
      refine Check_c (fun h5 e5 _ => ?_) (fun h5 e5 hn => absurd hMx hn)
      have ly := fun q K => loadH (q := q) (K := K) (hB4.ext e5)
      simp (disch := omega) [-Try.st47, -Try.ld47, ly]
      refine Check_c (fun h6 e6 hn => absurd hn hMy) (fun h6 e6 _ => ?_)
      simp (disch := omega) [-Try.st47, -Try.ld47, lx]
      refine Hknown_c fun hk ek => ?_
      simp (disch := omega)
      exact H _ (Ext.trans ((((E2.trans e3).trans e4).trans e5).trans e6) ek)
  · have hA3 := hA.ext e3
    have hB3 := hB.ext e3
    simp only [Hp_extract0, Hp_extract1]
    rw [loadH hB3]
    refine HBytes_c (fun v4 h4 e4 hO4 hF4 hMy => ?_) (fun h4 e4 hMy => ?_)
    · have hA4 := hA3.ext e4
      have hB4 := hB3.ext e4
      have lx := fun q K => loadH (q := q) (K := K) hA4
      simp (disch := omega) [-Try.st47, -Try.ld47, lx]
      refine Check_c (fun h5 e5 hn => absurd hn hMx) (fun h5 e5 _ => ?_)
      have ly := fun q K => loadH (q := q) (K := K) (hB4.ext e5)
      simp (disch := omega) [-Try.st47, -Try.ld47, ly]
      refine Check_c (fun h6 e6 _ => ?_) (fun h6 e6 hn => absurd hMy hn)
      simp (disch := omega) [-Try.st47, -Try.ld47, lx]
      refine Hknown_c fun hk ek => ?_
      simp (disch := omega)
      exact H _ (Ext.trans ((((E2.trans e3).trans e4).trans e5).trans e6) ek)
    · have hA4 := hA3.ext e4
      have hB4 := hB3.ext e4
      have lx := fun q K => loadH (q := q) (K := K) hA4
      simp (disch := omega) [-Try.st47, -Try.ld47, lx]
      refine Check_c (fun h5 e5 hn => absurd hn hMx) (fun h5 e5 _ => ?_)
      have ly := fun q K => loadH (q := q) (K := K) (hB4.ext e5)
      simp (disch := omega) [-Try.st47, -Try.ld47, ly]
      refine Check_c (fun h6 e6 hn => absurd hn hMy) (fun h6 e6 _ => ?_)
      simp (disch := omega) [-Try.st47, -Try.ld47, lx]
      refine Hknown_c fun hk ek => ?_
      simp (disch := omega)
      exact H _ (Ext.trans ((((E2.trans e3).trans e4).trans e5).trans e6) ek)
end Go.Proofs.Ytgnmjcljljfldaa
namespace Go.Proofs.Ytgnmjcljljfldaa.headApart
open Go.ChangeShapes Go.WideShapes Go.ChangeAt Go.RowKit Go.Joins Go.Vc

theorem own : ownKnob Try.prog.godebug = none := by kernel_rfl
theorem laidOut : laidOutB Try.prog = true := by kernel_rfl

set_option maxRecDepth 100000 in
set_option maxHeartbeats 1000000 in
theorem lifted (os : Os) (started : os.Started) (H : Type) (enc : TypeId × Value → H) :
    ReturnsInHanded {} Try.checked os 6 .any (Rows.headApartSpec.pre6 enc Try.prog Try.f6 Rows.headApartRow.domain false) (Rows.headApartSpec.post enc Try.prog Try.f6 false true false false) := by
  refine returnsInHanded_of_change (C := Try.checked) own started (by kernel_rfl) Try.func6
    (ChangeSpec.witness6 (enc := enc) (C := Try.checked) false ⟨#[], #[.agg #[.int .i64 0, .int .u64 0, .int .i64 0, .int .i64 0, .int .i64 0, .int .i64 0, .int .i64 0, .int .i64 0, .int .i64 0, .int .i64 0, .int .i64 0, .int .i64 0, .int .i64 0, .int .i64 0, str []], .agg #[.int .i64 0, .int .u64 0, .int .i64 0, .int .i64 0, .int .i64 0, .int .i64 0, .int .i64 0, .int .i64 0, .int .i64 0, .int .i64 0, .int .i64 0, .int .i64 0, .int .i64 0, .int .i64 0, str []]], []⟩ 8 (by kernel_rfl) (by kernel_rfl) (by kernel_rfl) (by kernel_rfl)) ?_
  intro W base args ds gs before hval0 hW hcnd _
  have hval : ∀ (j : Nat) t v, Try.f6.params[j]? = some t → args[j]? = some v → Value.okWide Try.prog W .any base t v := hval0
  have hW' := hW
  obtain ⟨p, q, hA0, hV, rfl, hfz, hnd⟩ := hW
  have hA : DataW.TrodAll enc Try.prog W 0 (fun _ => true) true Try.f6.params.toList args.toList ds p := hA0
  rw [Try.params6] at hA hval
  obtain ⟨v0, vs0, d0, ds0, p0, q0, hargs, rfl, rfl, h0, r0⟩ := trodAll_cons hA
  obtain ⟨v1, vs1, d1, ds1, p1, q1, rfl, rfl, rfl, h1, r1⟩ := trodAll_cons r0
  obtain ⟨rfl, rfl, rfl⟩ := trodAll_nil r1
  obtain rfl : args = #[v0, v1] := by cases args; simp_all
  obtain ⟨x, rfl, _⟩ := open_head (hval 0 47 v0 rfl rfl) h0
  obtain ⟨y, rfl, _⟩ := open_head (hval 1 47 v1 rfl rfl) h1
  refine ((HeadApart_c (h := W.heap)  (K := fun v h' => v = .bool true ∧ Ext W.heap h') (fun h' e => ⟨rfl, e⟩)).out W rfl).mono fun e W' ⟨v, he, hs, hv, hx⟩ => ?_
  exact ⟨v, he, hv ▸ law_post laidOut (by kernel_rfl) rfl (tb := 4) (by kernel_rfl) (by kernel_rfl) hW' (fun hg => by rw [hg]; rfl) (below_of hs hx)⟩

theorem proved : Rows.HeadApartSaid :=
  OpenClaim.holds_of_wide 6 Try.f6 rfl rfl rfl rfl rfl rfl rfl ⟨rfl, rfl, rfl, rfl, rfl⟩ rfl rfl rfl rfl rfl (by kernel_rfl) Try.func6 (by kernel_rfl)
    (of_decide_eq_true (by kernel_rfl)) (by unfold Func.isWrapper; first | (rw [if_pos (by decide +kernel)]; kernel_rfl) | (rw [if_neg (by decide +kernel)]; exact ⟨rfl, rfl⟩))
    (fun os started H enc _ => lifted os started H enc)
end Go.Proofs.Ytgnmjcljljfldaa.headApart
