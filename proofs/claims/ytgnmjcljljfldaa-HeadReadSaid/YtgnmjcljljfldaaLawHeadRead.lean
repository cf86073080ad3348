/- What is proved: the law palimpsestlaw08.HeadRead returns true for every input, and its arguments read as they did. No conditions. -/
import Derived.Test.YtgnmjcljljfldaaRows
import Derived.Test.YtgnmjcljljfldaaHead11
import Derived.Test.YtgnmjcljljfldaaHeadOpen
import Derived.Test.YtgnmjcljljfldaaOwn77
set_option linter.unusedSimpArgs false
set_option linter.unusedVariables false
namespace Go.Proofs.Ytgnmjcljljfldaa
open Go.Vc
variable {K : Value → Heap → Prop} {h : Heap}

theorem zeroH : (Value.agg #[.int .i64 0, .int .u64 0, .int .i64 0, .int .i64 0, .int .i64 0, .int .i64 0, .int .i64 0, .int .i64 0, .int .i64 0, .int .i64 0, .int .i64 0, .int .i64 0, .int .i64 0, .int .i64 0, str []]) = Hd0.val := rfl
set_option maxHeartbeats 4000000 in
theorem HeadRead_c {v : Value} {l : List UInt8} (hB : Bytes h v l) (H : ∀ h', Ext h h' → K (.bool true) h') : CallsH Try.prog 5 #[v] h K ⟨⟩ := by
  obtain ⟨o, c0, rfl⟩ := hB.form
  refine n5_calls ?_
  unfold n5
  by_cases hl : (5000 : Int) < l.length
  · simp (disch := omega) [hl]
    exact Hknown_c H
  simp (disch := omega) [hl]
  refine mk77 hB (by omega) fun B c h2 e2 hBB hc hO => ?_
  have hP := pre77 rfl hO
  simp (disch := omega)
  refine Read_c hP.1 (by omega) (fun h3 x e3 h512 hM hx => ?_) (fun h3 e3 hno => ?_)
  · simp only [Hp_extract0, Hp_extract1]
    refine allocH fun ga ea hza _ => ?_
    refine storeH (x := x) hza fun g4 ma hw4 => ?_
    have e4 : Ext h3 g4 := ma.ext_from ea (fun b hb e => by omega)
    refine RRead_c (hB.ext ((e2.trans e3).trans e4)) (by omega) (fun h5 y e5 _ hMy hy => ?_) (fun h5 e5 hno => absurd ⟨h512, x, hM, hx⟩ hno)
    obtain rfl := hdB_inj hMy hM (hy.trans hx.symm)
    simp only [Hp_extract0, Hp_extract1]
    refine allocH fun gb eb hzb _ => ?_
    refine storeH (x := y) hzb fun g6 mb hw6 => ?_
    have e6 : Ext h5 g6 := mb.ext_from eb (fun b hb e => by omega)
    have e36 := (e3.trans e4).trans (e5.trans e6)
    have E6 := e2.trans e36
    have hw4' := hw4.ext (e5.trans e6)
    have hc77 := hcell_ext e36 hP.2
    have w1 := fun q K => Try.cv26_9 (q := q) (K := K) (hP.1.ext e36)
    have w2 := fun q K => Try.cv26_9 (q := q) (K := K) (hB.ext E6)
    have lx := fun q K => loadH (q := q) (K := K) hw4'.at
    simp (disch := omega) [-Try.st47, -Try.ld47, -Try.al47, w1, w2, hc77, byteV, lx]
    refine HBytes_c (fun vv h7 e7 hO7 hF7 _ => ?_) (fun h7 e7 hn => absurd hM hn)
    obtain ⟨u, hu, su⟩ := slB0 (hB.ext (E6.trans e7)) (by omega) 512 (by omega) (by omega)
    have cu := fun q K => Try.cv26_9 (q := q) (K := K) hu
    have cv7 := fun q K => Try.cv26_9 (q := q) (K := K) hO7.bytes
    have lx7 := fun q K => loadH (q := q) (K := K) (hw4'.ext e7).at
    have ly7 := fun q K => loadH (q := q) (K := K) (hw6.ext e7).at
    simp (disch := omega) [-Try.st47, -Try.ld47, -Try.al47, su, cu, cv7, lx7, ly7, eqlH, hx]
    refine Hknown_c fun h8 e8 => ?_
    simp (disch := omega)
    exact H _ ((E6.trans e7).trans e8)
  · simp only [Hp_extract0, Hp_extract1]
    refine allocH fun ga ea hza _ => ?_
    refine storeH (x := Hd0) hza fun g4 ma hw4 => ?_
    have e4 : Ext h3 g4 := ma.ext_from ea (fun b hb e => by omega)
    refine RRead_c (hB.ext ((e2.trans e3).trans e4)) (by omega) (fun h5 y e5 h512 hMy hy => absurd ⟨h512, y, hMy, hy⟩ hno) (fun h5 e5 _ => ?_)
    simp only [Hp_extract0, Hp_extract1]
    refine allocH fun gb eb hzb _ => ?_
    refine storeH (x := Hd0) hzb fun g6 mb hw6 => ?_
    have e6 : Ext h5 g6 := mb.ext_from eb (fun b hb e => by omega)
    have e36 := (e3.trans e4).trans (e5.trans e6)
    have E6 := e2.trans e36
    have hw4' := hw4.ext (e5.trans e6)
    have hc77 := hcell_ext e36 hP.2
    have w1 := fun q K => Try.cv26_9 (q := q) (K := K) (hP.1.ext e36)
    have w2 := fun q K => Try.cv26_9 (q := q) (K := K) (hB.ext E6)
    have lx := fun q K => loadH (q := q) (K := K) hw4'.at
    simp (disch := omega) [-Try.st47, -Try.ld47, -Try.al47, w1, w2, hc77, byteV, lx, zeroH, eqlH]
    refine Hknown_c fun h8 e8 => ?_
    simp (disch := omega)
    exact H _ (E6.trans e8)
end Go.Proofs.Ytgnmjcljljfldaa
namespace Go.Proofs.Ytgnmjcljljfldaa.headRead
open Go.ChangeShapes Go.WideShapes Go.ChangeAt Go.RowKit Go.Joins Go.Vc

theorem own : ownKnob Try.prog.godebug = none := by kernel_rfl
theorem laidOut : laidOutB Try.prog = true := by kernel_rfl

set_option maxRecDepth 100000 in
set_option maxHeartbeats 1000000 in
theorem lifted (os : Os) (started : os.Started) (H : Type) (enc : TypeId × Value → H) :
    ReturnsInHanded {} Try.checked os 5 .any (Rows.headReadSpec.pre6 enc Try.prog Try.f5 Rows.headReadRow.domain false) (Rows.headReadSpec.post enc Try.prog Try.f5 false true false false) := by
  refine returnsInHanded_of_change (C := Try.checked) own started (by kernel_rfl) Try.func5
    (ChangeSpec.witness6 (enc := enc) (C := Try.checked) false ⟨#[], #[.slice none 0 0], []⟩ 8 (by kernel_rfl) (by kernel_rfl) (by kernel_rfl) (by kernel_rfl)) ?_
  intro W base args ds gs before hval0 hW hcnd _
  have hval : ∀ (j : Nat) t v, Try.f5.params[j]? = some t → args[j]? = some v → Value.okWide Try.prog W .any base t v := hval0
  have hW' := hW
  obtain ⟨p, q, hA0, hV, rfl, hfz, hnd⟩ := hW
  have hA : DataW.TrodAll enc Try.prog W 0 (fun _ => true) true Try.f5.params.toList args.toList ds p := hA0
  rw [Try.params5] at hA hval
  obtain ⟨v0, vs0, d0, ds0, p0, q0, hargs, rfl, rfl, h0, r0⟩ := trodAll_cons hA
  obtain ⟨rfl, rfl, rfl⟩ := trodAll_nil r0
  obtain rfl : args = #[v0] := by cases args; simp_all
  obtain ⟨l, hB, _⟩ := open_bytes (e := 5) (by kernel_rfl) (by kernel_rfl) (by kernel_rfl) (hval 0 26 v0 rfl rfl) h0
  refine ((HeadRead_c (h := W.heap) hB (K := fun v h' => v = .bool true ∧ Ext W.heap h') (fun h' e => ⟨rfl, e⟩)).out W rfl).mono fun e W' ⟨v, he, hs, hv, hx⟩ => ?_
  exact ⟨v, he, hv ▸ law_post laidOut (by kernel_rfl) rfl (tb := 4) (by kernel_rfl) (by kernel_rfl) hW' (fun hg => by rw [hg]; rfl) (below_of hs hx)⟩

theorem proved : Rows.HeadReadSaid :=
  OpenClaim.holds_of_wide 5 Try.f5 rfl rfl rfl rfl rfl rfl rfl ⟨rfl, rfl, rfl, rfl, rfl⟩ rfl rfl rfl rfl rfl (by kernel_rfl) Try.func5 (by kernel_rfl)
    (of_decide_eq_true (by kernel_rfl)) (by unfold Func.isWrapper; first | (rw [if_pos (by decide +kernel)]; kernel_rfl) | (rw [if_neg (by decide +kernel)]; exact ⟨rfl, rfl⟩))
    (fun os started H enc _ => lifted os started H enc)
end Go.Proofs.Ytgnmjcljljfldaa.headRead
