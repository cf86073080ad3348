/- What is proved: the law palimpsestlaw06.StoreNil returns true for every input, and its arguments read as they did. No conditions. -/
import Derived.Test.YtdmcaaojapcbcaaRows
import Derived.Test.YtdmcaaojapcbcaaSto24
set_option linter.unusedSimpArgs false
set_option linter.unusedVariables false
namespace Go.Proofs.Ytdmcaaojapcbcaa
open Go.Vc
variable {K : Value → Heap → Prop} {h : Heap}

set_option maxHeartbeats 8000000 in
theorem nothing6_c {sv : Value} {l : List UInt8} {n : Int} {bv : Value} (a : NilSt h sv) (hb : ∃ o m c, bv = .slice o m c) (hn : -9223372036854775808 ≤ n ∧ n < 9223372036854775808) (H : ∀ h', Ext h h' → K (.bool true) h') :
    CallsH Try.prog 30 #[sv, str l, .int .i64 n, bv] h K ⟨⟩ := by
  refine n30_calls ?_
  unfold n30
  obtain ⟨bo, bm, bc, rfl⟩ := hb
  simp (disch := omega)
  refine (⟨_, rfl⟩ : ∃ g, g = h.push (.cells #[.bool false] 4)).elim fun h0 eh0 => ?_
  have e0 : Ext h h0 := by rw [eh0]; exact (by repeat' (first | (with_reducible exact Ext.refl _) | (with_reducible assumption) | (with_reducible refine push_ext ?_) | (with_reducible refine hset_ext ?_ ?_) | (with_reducible refine Ext.trans ?_ (by assumption)) | omega | (simp; done) | (simp; omega) | (refine Ext.size ?_) | (refine Nat.le_succ_of_le (Ext.size ?_))))
  have r0 : h0[h.size]? = some (.cells #[.bool false] 4) := by rw [eh0]; exact get_pushed rfl
  rw [show h.push (.cells #[.bool false] 4) = h0 from eh0.symm]
  clear eh0
  have a0 := a.ext e0
  refine ReadN a0 ?_
  simp (disch := omega)
  refine SizeN a0 ?_
  simp (disch := omega)
  refine CrashN a0 fun h1 e1 => ?_
  have a1 := a0.ext e1
  simp (disch := omega)
  refine StepsN a1 ?_
  simp (disch := omega)
  refine PiecesN a1 fun h2 sb e2 ps => ?_
  have a2 := a1.ext e2
  unfold seqV
  simp (disch := omega)
  have e02 := e1.trans e2
  refine JoinN_in1 (fun D g => Ext h2 g ∧ D = .tuple (marksV [h2.size]).toArray ∧ g[h2.size]? = some (.deferred (some []))) (fun kk hkk => ?_) (fun D g hD => ?_)
  · refine JoinN.mk ?_
    refine RangeP ps (fun j g => Ext h2 g) (fun g e _ => e) (fun j g g' hΦ e => hΦ.trans e) (fun j hj => absurd hj (by simp)) (fun g oE hΦ hd hlt _ => ?_)
    refine hkk _ _ ⟨(Mod.put g (h2.size + 1) oE).ext_from hΦ (fun b hb e => by omega), ?_, (get_putne (by omega)).trans hd⟩
    rfl
  · obtain ⟨e3, rfl, hd⟩ := hD
    have hf0 : Fas g (.slice none 0 0) [] := ⟨.inl ⟨rfl, rfl, rfl⟩, ⟨none, 0, rfl, Nat.le_refl _⟩, by decide, fun f hf => by cases hf⟩
    have a3 := a2.ext e3
    refine New_c hf0 (by decide) (fun h4 e4 hne => by cases hne) (fun h4 p t e4 _ _ _ _ hp _ ht => ?_)
    have a4 := a3.ext e4
    simp (disch := omega)
    refine CreateN a4 ?_
    simp (disch := omega)
    refine RemoveN a4 ?_
    simp (disch := omega)
    refine WriteN a4 ?_
    simp (disch := omega)
    refine FlushN a4 ?_
    simp (disch := omega)
    refine ResizeN a4 ?_
    simp (disch := omega)
    refine FeedN a4 ?_
    simp (disch := omega)
    refine NamesN a4 ?_
    simp (disch := omega)
    refine PendingN a4 fun h5 e5 => ?_
    have a5 := a4.ext e5
    have t5 := ht.ext e5
    simp (disch := omega)
    refine CopyN a5 ?_
    simp (disch := omega)
    refine SameNN a5 (.inl rfl) ?_
    simp (disch := omega)
    refine SameNS a5 t5 ?_
    simp (disch := omega)
    refine SameSN a5 t5 ?_
    have e05 := e02.trans (e3.trans (e4.trans e5))
    have rz := (e05.block h.size (get_some_lt r0)).trans r0
    have cz := cellOf (i := 0) rz rfl
    have fz := frzOf (i := 0) rz
    have hz0 := e0.size
    have hz02 := e02.size
    have hrl := get_some_lt r0
    have d5 := ((e4.trans e5).block _ (get_some_lt hd)).trans hd
    simp (disch := omega) [cz, fz]
    refine RetD_all (fun d hd' => ?_) (by simp) (fun g9 m9 => ?_)
    · simp at hd'; subst hd'
      exact (get_hset' (by omega)).trans d5
    have rz9 := (m9.block h.size (by rw [hset_size]; exact get_some_lt rz) (fun e => by simp at e; omega)).trans (obj_set (i := 0) (v := .bool true) rz)
    have cz9 := cellOf (i := 0) rz9 rfl
    simp (disch := omega) [cz9]
    exact H _ (m9.ext_from (hset_ext (e0.trans e05) (by simp)) (fun b hb e => by simp at e; omega))
set_option maxHeartbeats 2000000 in
theorem StoreNil_c {l : List UInt8} {n : Int} {bv : Value} {b : List UInt8} (hn : i64 n) (hb : Bytes h bv b) (H : ∀ h', Ext h h' → K (.bool true) h') : CallsH Try.prog 6 #[str l, .int .i64 n, bv] h K ⟨⟩ := by
  refine n6_calls ?_
  unfold n6
  obtain ⟨bo, bc, rfl⟩ := hb.form
  refine nothing6_c (.inl rfl) ⟨_, _, _, rfl⟩ hn fun h1 e1 => ?_
  simp (disch := omega)
  have e2 : Ext h1 (h1.push (.cells #[.map none, .slice none 0 0, .int .i64 0] sT)) := (by repeat' (first | (with_reducible exact Ext.refl _) | (with_reducible assumption) | (with_reducible refine push_ext ?_) | (with_reducible refine hset_ext ?_ ?_) | (with_reducible refine Ext.trans ?_ (by assumption)) | omega | (simp; done) | (simp; omega) | (refine Ext.size ?_) | (refine Nat.le_succ_of_le (Ext.size ?_))))
  refine nothing6_c (.inr ⟨h1.size, rfl, get_pushed rfl⟩) ⟨_, _, _, rfl⟩ hn fun h3 e3 => ?_
  simp (disch := omega)
  have e4 : Ext h3 (h3.push (.cells #[.map none, .slice none 0 0, .int .i64 0] sT)) := (by repeat' (first | (with_reducible exact Ext.refl _) | (with_reducible assumption) | (with_reducible refine push_ext ?_) | (with_reducible refine hset_ext ?_ ?_) | (with_reducible refine Ext.trans ?_ (by assumption)) | omega | (simp; done) | (simp; omega) | (refine Ext.size ?_) | (refine Nat.le_succ_of_le (Ext.size ?_))))
  refine SameNN (.inl rfl) (.inr ⟨h3.size, rfl, get_pushed rfl⟩) ?_
  simp (disch := omega)
  refine known6_c fun h5 e5 => ?_
  simp (disch := omega)
  exact H _ (e1.trans (e2.trans (e3.trans (e4.trans e5))))
end Go.Proofs.Ytdmcaaojapcbcaa
namespace Go.Proofs.Ytdmcaaojapcbcaa.storeNil
open Go.ChangeShapes Go.WideShapes Go.ChangeAt Go.RowKit Go.Joins Go.Vc

theorem own : ownKnob Try.prog.godebug = none := by kernel_rfl
theorem laidOut : laidOutB Try.prog = true := by kernel_rfl

set_option maxRecDepth 100000 in
set_option maxHeartbeats 1000000 in
theorem lifted (os : Os) (started : os.Started) (H : Type) (enc : TypeId × Value → H) :
    ReturnsInHanded {} Try.checked os 6 .any (Rows.storeNilSpec.pre6 enc Try.prog Try.f6 Rows.storeNilRow.domain false) (Rows.storeNilSpec.post enc Try.prog Try.f6 false true false false) := by
  refine returnsInHanded_of_change (C := Try.checked) own started (by kernel_rfl) Try.func6
    (ChangeSpec.witness6 (enc := enc) (C := Try.checked) false ⟨#[], #[.string ⟨#[]⟩, .int .i64 0, .slice none 0 0], []⟩ 8 (by kernel_rfl) (by kernel_rfl) (by kernel_rfl) (by kernel_rfl)) ?_
  intro W base args ds gs before hval0 hW hcnd _
  have hval : ∀ (j : Nat) t v, Try.f6.params[j]? = some t → args[j]? = some v → Value.okWide Try.prog W .any base t v := hval0
  have hW' := hW
  obtain ⟨p, q, hA0, hV, rfl, hfz, hnd⟩ := hW
  have hA : DataW.TrodAll enc Try.prog W 0 (fun _ => true) true Try.f6.params.toList args.toList ds p := hA0
  rw [Try.params6] at hA hval
  obtain ⟨v0, vs0, d0, ds0, p0, q0, hargs, rfl, rfl, h0, r0⟩ := trodAll_cons hA
  obtain ⟨v1, vs1, d1, ds1, p1, q1, rfl, rfl, rfl, h1, r1⟩ := trodAll_cons r0
  obtain ⟨v2, vs2, d2, ds2, p2, q2, rfl, rfl, rfl, h2, r2⟩ := trodAll_cons r1
  obtain ⟨rfl, rfl, rfl⟩ := trodAll_nil r2
  obtain rfl : args = #[v0, v1, v2] := by cases args; simp_all
  obtain ⟨nm, hnm, _⟩ := (Laid.top (hval 0 9 v0 rfl rfl) h0 (by kernel_rfl)).str (by kernel_rfl)
  obtain rfl : v0 = str nm := by simpa using hnm
  obtain ⟨n, hn, hn0, hn1⟩ := (Laid.top (hval 1 3 v1 rfl rfl) h1 (by kernel_rfl)).int (k := .i64) (by kernel_rfl)
  obtain rfl : v1 = .int .i64 n := by simpa using hn
  obtain ⟨l, hB, _⟩ := open_bytes (e := 5) (by kernel_rfl) (by kernel_rfl) (by kernel_rfl) (hval 2 50 v2 rfl rfl) h2
  refine ((StoreNil_c (h := W.heap) (i64_of ⟨hn0, hn1⟩) hB (K := fun v h' => v = .bool true ∧ Ext W.heap h') (fun h' e => ⟨rfl, e⟩)).out W rfl).mono fun e W' ⟨v, he, hs, hv, hx⟩ => ?_
  exact ⟨v, he, hv ▸ law_post laidOut (by kernel_rfl) rfl (tb := 4) (by kernel_rfl) (by kernel_rfl) hW' (fun hg => by rw [hg]; rfl) (below_of hs hx)⟩

theorem proved : Rows.StoreNilSaid :=
  OpenClaim.holds_of_wide 6 Try.f6 rfl rfl rfl rfl rfl rfl rfl ⟨rfl, rfl, rfl, rfl, rfl⟩ rfl rfl rfl rfl rfl (by kernel_rfl) Try.func6 (by kernel_rfl)
    (of_decide_eq_true (by kernel_rfl)) (by unfold Func.isWrapper; first | (rw [if_pos (by decide +kernel)]; kernel_rfl) | (rw [if_neg (by decide +kernel)]; exact ⟨rfl, rfl⟩))
    (fun os started H enc _ => lifted os started H enc)
end Go.Proofs.Ytdmcaaojapcbcaa.storeNil
