/- What is proved: the law palimpsestlaw08.HeadBytes returns true for every input, and its arguments read as they did. No conditions. -/
import Derived.Test.YtgnmjcljljfldaaRows
import Derived.Test.YtgnmjcljljfldaaHead11
import Derived.Test.YtgnmjcljljfldaaHeadOpen
set_option linter.unusedSimpArgs false
set_option linter.unusedVariables false
namespace Go.Proofs.Ytgnmjcljljfldaa
open Go.Vc
variable {K : Value → Heap → Prop} {h : Heap}

set_option maxHeartbeats 4000000 in
theorem HeadBytes_c {x : Hd} (hbk : x.back.length < 9223372036854775808) (H : ∀ h', Ext h h' → K (.bool true) h') : CallsH Try.prog 7 #[x.val] h K ⟨⟩ := by
  refine n7_calls ?_
  unfold n7
  rw [boxH]
  have hA := HdAt.new (h := h) x
  have e1 : Ext h (h.push (.cells x.cells.toArray 47)) := (by repeat' (first | (with_reducible exact Ext.refl _) | (with_reducible assumption) | (with_reducible refine push_ext ?_) | (with_reducible refine hset_ext ?_ ?_) | (with_reducible refine Ext.trans ?_ (by assumption)) | omega | (simp; done) | (simp; omega) | (refine Ext.size ?_) | (refine Nat.le_succ_of_le (Ext.size ?_))))
  generalize h.push (.cells x.cells.toArray 47) = g at *
  have a14 := hA.2.2.2.2.2.2.2.2.2.2.2.2.2.2
  by_cases la : 1000 < x.back.length
  · skip
    simp (disch := omega) [-Try.st47, -Try.ld47, -Try.al47, a14, la]
    exact Hknown_c fun hk ek => H _ (e1.trans ek)
  have lx := fun q K => loadH (q := q) (K := K) hA
  simp (disch := omega) [-Try.st47, -Try.ld47, -Try.al47, a14, la, lx]
  by_cases hM : MayH x
  · refine HBytes_c (fun v3 h3 e3 hO3 hF3 _ => ?_) (fun h3 e3 hm => absurd hM hm)
    have lx := fun q K => loadH (q := q) (K := K) (hA.ext e3)
    simp (disch := omega) [-Try.st47, -Try.ld47, -Try.al47, lx]
    refine May_c hbk (fun h4 e4 _ => ?_) (fun h4 e4 hm => absurd hM hm)
    have lx := fun q K => loadH (q := q) (K := K) (hA.ext (e3.trans e4))
    simp (disch := omega) [-Try.st47, -Try.ld47, -Try.al47, lx]
    refine Check_c (fun h5 e5 _ => ?_) (fun h5 e5 hm => absurd hM hm)
    have e35 := e4.trans e5
    have E5 := e3.trans e35
    have lx := fun q K => loadH (q := q) (K := K) (hA.ext E5)
    have c5 := fun q K => Try.cv26_9 (q := q) (K := K) (hO3.ext e35).bytes
    simp (disch := omega) [-Try.st47, -Try.ld47, -Try.al47, lx, c5]
    refine RBytes_c hM fun v6 h6 e6 hB6 => ?_
    have E6 := E5.trans e6
    have lx := fun q K => loadH (q := q) (K := K) (hA.ext E6)
    have hO6 := hO3.ext (e35.trans e6)
    have c6 := fun q K => Try.cv26_9 (q := q) (K := K) hO6.bytes
    have c7 := fun q K => Try.cv26_9 (q := q) (K := K) hB6
    simp (disch := omega) [-Try.st47, -Try.ld47, -Try.al47, lx, c6, c7]
    have hs : OwnS 1 (h6.push (.cells #[.int .u8 1, .int .u8 2, .int .u8 3] 5)) (.slice (some ⟨h6.size, 0, none⟩) 3 3) (([1, 2, 3] : List UInt8).map byteV) := OwnS_new (vs := ([1, 2, 3] : List UInt8).map byteV) rfl rfl
    have e7 : Ext h6 (h6.push (.cells #[.int .u8 1, .int .u8 2, .int .u8 3] 5)) := (by repeat' (first | (with_reducible exact Ext.refl _) | (with_reducible assumption) | (with_reducible refine push_ext ?_) | (with_reducible refine hset_ext ?_ ?_) | (with_reducible refine Ext.trans ?_ (by assumption)) | omega | (simp; done) | (simp; omega) | (refine Ext.size ?_) | (refine Nat.le_succ_of_le (Ext.size ?_))))
    have hl := hdB_len hM
    have hl3 : ([1, 2, 3] : List UInt8).length = 3 := rfl
    refine Hp_appB (e := 5) (by kernel_rfl) (by kernel_rfl) (hO6.ext e7) hs.bytes (by omega) fun v8 h8 hO8 hM8 hF8 _ => ?_
    have E_h8 : Ext g h8 := hM8.ext_from (E6.trans e7) (fun b hb e => by have := hF3 b e; omega)
    have ht : (hdB x ++ [1, 2, 3]).take 512 = hdB x := List.take_left' hl
    refine Read_c hO8.bytes (by rw [List.length_append]; omega) (fun h9 y e9 _ hMy hy => ?_) (fun h9 e9 hno => absurd ⟨by rw [List.length_append]; omega, x, hM, ht.symm⟩ hno)
    rw [ht] at hy
    obtain rfl := hdB_inj hMy hM hy
    simp only [Hp_extract0, Hp_extract1]
    refine allocH fun ga ea hza _ => ?_
    refine storeH (x := y) hza fun g10 ma hw => ?_
    have e10 : Ext h9 g10 := ma.ext_from ea (fun b hb e => by omega)
    have E_g10 := E_h8.trans (e9.trans e10)
    have EE_g10 := Ext.refl g10
    have a0 := hcell_ext E_g10 hA.1
    obtain ⟨b0, b1, -⟩ := hM.1
    have hcl := clus b0 b1
    simp (disch := omega) [-Try.st47, -Try.ld47, -Try.al47, a0]
    refine Cluster_c (by omega) (by omega) ?_
    have lx := fun q K => loadH (q := q) (K := K) (hA.ext E_g10)
    have ly := fun q K => loadH (q := q) (K := K) hw.at
    simp (disch := omega) [-Try.st47, -Try.ld47, -Try.al47, lx, ly, eqlH]
    refine ClusterH_c (fun h11 eb _ => ?_) (fun ha ea hm => absurd hM hm)
    have E_h11 := Ext.trans E_g10 eb
    have lx := fun q K => loadH (q := q) (K := K) (hA.ext E_h11)
    have ly := fun q K => loadH (q := q) (K := K) (hw.ext (EE_g10.trans eb)).at
    have EE_h11 := EE_g10.trans eb
    simp (disch := omega) [-Try.st47, -Try.ld47, -Try.al47, lx, ly]
    refine EntriesH_c (fun h12 eb _ => ?_) (fun ha ea hm => absurd hM hm)
    have E_h12 := Ext.trans E_h11 eb
    have lx := fun q K => loadH (q := q) (K := K) (hA.ext E_h12)
    have ly := fun q K => loadH (q := q) (K := K) (hw.ext (EE_h11.trans eb)).at
    have EE_h12 := EE_h11.trans eb
    simp (disch := omega) [-Try.st47, -Try.ld47, -Try.al47, lx, ly]
    refine GuestH_c (fun h13 eb _ => ?_) (fun ha ea hm => absurd hM hm)
    have E_h13 := Ext.trans E_h12 eb
    have lx := fun q K => loadH (q := q) (K := K) (hA.ext E_h13)
    have ly := fun q K => loadH (q := q) (K := K) (hw.ext (EE_h12.trans eb)).at
    have EE_h13 := EE_h12.trans eb
    simp (disch := omega) [-Try.st47, -Try.ld47, -Try.al47, lx, ly]
    refine RGuest_c b0 b1 (by have := hM.1.2.2.2.1; omega) (by have := hM.1.2.2.2.2.1; omega) fun h14 e14 => ?_
    have E_h14 := E_h13.trans e14
    have EE_h14 := EE_h13.trans e14
    have lx := fun q K => loadH (q := q) (K := K) (hA.ext E_h14)
    simp (disch := omega) [-Try.st47, -Try.ld47, -Try.al47, lx]
    refine TablesH_c (fun h15 eb _ => ?_) (fun ha ea hm => absurd hM hm)
    have E_h15 := Ext.trans E_h14 eb
    have lx := fun q K => loadH (q := q) (K := K) (hA.ext E_h15)
    have ly := fun q K => loadH (q := q) (K := K) (hw.ext (EE_h14.trans eb)).at
    have EE_h15 := EE_h14.trans eb
    simp (disch := omega) [-Try.st47, -Try.ld47, -Try.al47, lx, ly]
    refine RTables_c b0 b1 (by have := hM.1.2.2.2.1; omega) (by have := hM.1.2.2.2.2.1; omega) fun h16 e16 => ?_
    simp (disch := omega) [-Try.st47, -Try.ld47, -Try.al47, lx]
    refine Hknown_c fun hk ek => ?_
    simp (disch := omega)
    exact H _ (((e1.trans E_h15).trans e16).trans ek)
  · refine HBytes_c (fun v3 h3 e3 hO3 hF3 hm => absurd hm hM) (fun h3 e3 _ => ?_)
    have lx := fun q K => loadH (q := q) (K := K) (hA.ext e3)
    simp (disch := omega) [-Try.st47, -Try.ld47, -Try.al47, lx]
    refine May_c hbk (fun h4 e4 hm => absurd hm hM) (fun h4 e4 _ => ?_)
    have E_h4 := e3.trans e4
    have lx := fun q K => loadH (q := q) (K := K) (hA.ext E_h4)
    simp (disch := omega) [-Try.st47, -Try.ld47, -Try.al47, lx]
    refine Check_c (fun h5 e5 hm => absurd hm hM) (fun h5 e5 _ => ?_)
    have E_h5 := E_h4.trans e5
    have lx := fun q K => loadH (q := q) (K := K) (hA.ext E_h5)
    simp (disch := omega) [-Try.st47, -Try.ld47, -Try.al47, lx]
    refine ClusterH_c (fun ha ea hm => absurd hm hM) (fun h6 eb _ => ?_)
    have E_h6 := Ext.trans E_h5 eb
    have lx := fun q K => loadH (q := q) (K := K) (hA.ext E_h6)
    simp (disch := omega) [-Try.st47, -Try.ld47, -Try.al47, lx]
    refine EntriesH_c (fun ha ea hm => absurd hm hM) (fun h7 eb _ => ?_)
    have E_h7 := Ext.trans E_h6 eb
    have lx := fun q K => loadH (q := q) (K := K) (hA.ext E_h7)
    simp (disch := omega) [-Try.st47, -Try.ld47, -Try.al47, lx]
    refine GuestH_c (fun ha ea hm => absurd hm hM) (fun h8 eb _ => ?_)
    have E_h8 := Ext.trans E_h7 eb
    have lx := fun q K => loadH (q := q) (K := K) (hA.ext E_h8)
    simp (disch := omega) [-Try.st47, -Try.ld47, -Try.al47, lx]
    refine TablesH_c (fun ha ea hm => absurd hm hM) (fun h9 eb _ => ?_)
    have E_h9 := Ext.trans E_h8 eb
    have lx := fun q K => loadH (q := q) (K := K) (hA.ext E_h9)
    simp (disch := omega) [-Try.st47, -Try.ld47, -Try.al47, lx]
    refine Hknown_c fun hk ek => ?_
    simp (disch := omega)
    exact H _ ((e1.trans E_h9).trans ek)
end Go.Proofs.Ytgnmjcljljfldaa
namespace Go.Proofs.Ytgnmjcljljfldaa.headBytes
open Go.ChangeShapes Go.WideShapes Go.ChangeAt Go.RowKit Go.Joins Go.Vc

theorem own : ownKnob Try.prog.godebug = none := by kernel_rfl
theorem laidOut : laidOutB Try.prog = true := by kernel_rfl

set_option maxRecDepth 100000 in
set_option maxHeartbeats 1000000 in
theorem lifted (os : Os) (started : os.Started) (H : Type) (enc : TypeId × Value → H) :
    ReturnsInHanded {} Try.checked os 7 .any (Rows.headBytesSpec.pre6 enc Try.prog Try.f7 Rows.headBytesRow.domain false) (Rows.headBytesSpec.post enc Try.prog Try.f7 false true false false) := by
  refine returnsInHanded_of_change (C := Try.checked) own started (by kernel_rfl) Try.func7
    (ChangeSpec.witness6 (enc := enc) (C := Try.checked) false ⟨#[], #[.agg #[.int .i64 0, .int .u64 0, .int .i64 0, .int .i64 0, .int .i64 0, .int .i64 0, .int .i64 0, .int .i64 0, .int .i64 0, .int .i64 0, .int .i64 0, .int .i64 0, .int .i64 0, .int .i64 0, str []]], []⟩ 8 (by kernel_rfl) (by kernel_rfl) (by kernel_rfl) (by kernel_rfl)) ?_
  intro W base args ds gs before hval0 hW hcnd _
  have hval : ∀ (j : Nat) t v, Try.f7.params[j]? = some t → args[j]? = some v → Value.okWide Try.prog W .any base t v := hval0
  have hW' := hW
  obtain ⟨p, q, hA0, hV, rfl, hfz, hnd⟩ := hW
  have hA : DataW.TrodAll enc Try.prog W 0 (fun _ => true) true Try.f7.params.toList args.toList ds p := hA0
  rw [Try.params7] at hA hval
  obtain ⟨v0, vs0, d0, ds0, p0, q0, hargs, rfl, rfl, h0, r0⟩ := trodAll_cons hA
  obtain ⟨rfl, rfl, rfl⟩ := trodAll_nil r0
  obtain rfl : args = #[v0] := by cases args; simp_all
  obtain ⟨x, rfl, hbk⟩ := open_head (hval 0 47 v0 rfl rfl) h0
  refine ((HeadBytes_c (h := W.heap) hbk (K := fun v h' => v = .bool true ∧ Ext W.heap h') (fun h' e => ⟨rfl, e⟩)).out W rfl).mono fun e W' ⟨v, he, hs, hv, hx⟩ => ?_
  exact ⟨v, he, hv ▸ law_post laidOut (by kernel_rfl) rfl (tb := 4) (by kernel_rfl) (by kernel_rfl) hW' (fun hg => by rw [hg]; rfl) (below_of hs hx)⟩

theorem proved : Rows.HeadBytesSaid :=
  OpenClaim.holds_of_wide 7 Try.f7 rfl rfl rfl rfl rfl rfl rfl ⟨rfl, rfl, rfl, rfl, rfl⟩ rfl rfl rfl rfl rfl (by kernel_rfl) Try.func7 (by kernel_rfl)
    (of_decide_eq_true (by kernel_rfl)) (by unfold Func.isWrapper; first | (rw [if_pos (by decide +kernel)]; kernel_rfl) | (rw [if_neg (by decide +kernel)]; exact ⟨rfl, rfl⟩))
    (fun os started H enc _ => lifted os started H enc)
end Go.Proofs.Ytgnmjcljljfldaa.headBytes
