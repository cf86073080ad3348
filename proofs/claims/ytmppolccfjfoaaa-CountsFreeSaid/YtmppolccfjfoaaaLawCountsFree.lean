/- What is proved: the law palimpsestlaw10.CountsFree returns true for every input, and its arguments read as they did. No conditions. -/
import Derived.Test.YtmppolccfjfoaaaRows
import Derived.Test.YtmppolccfjfoaaaOpen
import Derived.Test.YtmppolccfjfoaaaCounts5
set_option linter.unusedSimpArgs false
set_option linter.unusedVariables false
namespace Go.Proofs.Ytmppolccfjfoaaa
open Go.Vc
variable {K : Value → Heap → Prop} {h : Heap}

theorem CountsFree_c {v : Value} {l : List UInt8} {o f n : Int} (hB : Bytes h v l) (hn : -9223372036854775808 ≤ n ∧ n < 9223372036854775808) (H : ∀ h', Ext h h' → K (.bool true) h') :
    CallsH Try.prog 10 #[v, .int .i64 o, .agg #[.int .i64 f, .int .i64 n]] h K ⟨⟩ := by
  obtain ⟨q, q0, rfl⟩ := hB.form
  have hE0 : Ext h (h.push (.cells #[.int .i64 f, .int .i64 n] 88)) := (by repeat' (first | (with_reducible exact Ext.refl _) | (with_reducible assumption) | (with_reducible refine push_ext ?_) | (with_reducible refine hset_ext ?_ ?_) | (with_reducible refine Ext.trans ?_ (by assumption)) | omega | (simp; done) | (simp; omega) | (refine Ext.size ?_) | (refine Nat.le_succ_of_le (Ext.size ?_))))
  refine n10_calls ?_
  unfold n10
  by_cases hl : (300 : Int) < l.length
  · simp (disch := omega) [hl]
    exact Cknown_c fun h' e => H h' (by repeat' (first | (with_reducible exact Ext.refl _) | (with_reducible assumption) | (with_reducible refine push_ext ?_) | (with_reducible refine hset_ext ?_ ?_) | (with_reducible refine Ext.trans ?_ (by assumption)) | omega | (simp; done) | (simp; omega) | (refine Ext.size ?_) | (refine Nat.le_succ_of_le (Ext.size ?_))))
  · simp (disch := omega) [hl]
    refine Free_c (hB.ext hE0) (by omega) hn.2 fun h1 e1 => ?_
    have ce1 := ext_cell e1 rfl; have fe1 := ext_frz e1 rfl; have se1 := (e1).size; (try simp only [Array.size_push, hset_size] at ce1); (try simp only [Array.size_push, hset_size] at fe1); (try simp only [Array.size_push, hset_size] at se1)
    simp (disch := omega) [ce1, fe1]
    refine RefFree_c (hB.ext (hE0.trans e1)) (by omega) hn.2 ?_
    simp (disch := omega)
    refine Cknown_c fun h' e => ?_
    simp (disch := omega)
    exact H h' ((hE0.trans e1).trans e)
end Go.Proofs.Ytmppolccfjfoaaa
namespace Go.Proofs.Ytmppolccfjfoaaa.countsFree
open Go.ChangeShapes Go.WideShapes Go.ChangeAt Go.RowKit Go.Joins Go.Vc

theorem own : ownKnob Try.prog.godebug = none := by kernel_rfl
theorem laidOut : laidOutB Try.prog = true := by kernel_rfl

set_option maxRecDepth 100000 in
set_option maxHeartbeats 1000000 in
theorem lifted (os : Os) (started : os.Started) (H : Type) (enc : TypeId × Value → H) :
    ReturnsInHanded {} Try.checked os 10 .any (Rows.countsFreeSpec.pre6 enc Try.prog Try.f10 Rows.countsFreeRow.domain false) (Rows.countsFreeSpec.post enc Try.prog Try.f10 false true false false) := by
  refine returnsInHanded_of_change (C := Try.checked) own started (by kernel_rfl) Try.func10
    (ChangeSpec.witness6 (enc := enc) (C := Try.checked) false ⟨#[], #[.slice none 0 0, .int .i64 9, .agg #[.int .i64 0, .int .i64 0]], []⟩ 8 (by kernel_rfl) (by kernel_rfl) (by kernel_rfl) (by kernel_rfl)) ?_
  intro W base args ds gs before hval0 hW hcnd _
  have hval : ∀ (j : Nat) t v, Try.f10.params[j]? = some t → args[j]? = some v → Value.okWide Try.prog W .any base t v := hval0
  have hW' := hW
  obtain ⟨p, q, hA0, hV, rfl, hfz, hnd⟩ := hW
  have hA : DataW.TrodAll enc Try.prog W 0 (fun _ => true) true Try.f10.params.toList args.toList ds p := hA0
  rw [Try.params10] at hA hval
  obtain ⟨v0, vs0, d0, ds0, p0, q0, hargs, rfl, rfl, h0, r0⟩ := trodAll_cons hA
  obtain ⟨v1, vs1, d1, ds1, p1, q1, rfl, rfl, rfl, h1, r1⟩ := trodAll_cons r0
  obtain ⟨v2, vs2, d2, ds2, p2, q2, rfl, rfl, rfl, h2, r2⟩ := trodAll_cons r1
  obtain ⟨rfl, rfl, rfl⟩ := trodAll_nil r2
  obtain rfl : args = #[v0, v1, v2] := by cases args; simp_all
  obtain ⟨l, hB, _⟩ := open_bytes (e := 5) (by kernel_rfl) (by kernel_rfl) (by kernel_rfl) (hval 0 39 v0 rfl rfl) h0
  obtain ⟨o, rfl, _, _, wo⟩ := open_int (k := .i64) (by kernel_rfl) (hval 1 3 v1 rfl rfl) h1
  obtain ⟨cs, rfl, hl, hL⟩ := Laid.topFlds (L := [(3, 0, 1), (3, 1, 1)]) (n := 2) (by kernel_rfl) (by kernel_rfl) (hval 2 88 v2 rfl rfl) h2
  obtain ⟨c0, c1, rfl⟩ := len2 hl
  obtain ⟨f, hf, -⟩ := (hL 0 _ _ _ rfl).int (k := .i64) (by kernel_rfl)
  obtain ⟨n, hn, hn1, hn2⟩ := (hL 1 _ _ _ rfl).int (k := .i64) (by kernel_rfl)
  obtain rfl : c0 = .int .i64 f := by simpa using hf
  obtain rfl : c1 = .int .i64 n := by simpa using hn
  simp [IntKind.min, IntKind.max, IntKind.signed, IntKind.bits] at hn1 hn2
  refine ((CountsFree_c (h := W.heap) hB (by omega) (K := fun v h' => v = .bool true ∧ Ext W.heap h') (fun h' e => ⟨rfl, e⟩)).out W rfl).mono fun e W' ⟨v, he, hs, hv, hx⟩ => ?_
  exact ⟨v, he, hv ▸ law_post laidOut (by kernel_rfl) rfl (tb := 4) (by kernel_rfl) (by kernel_rfl) hW' (fun hg => by rw [hg]; rfl) (below_of hs hx)⟩

theorem proved : Rows.CountsFreeSaid :=
  OpenClaim.holds_of_wide 10 Try.f10 rfl rfl rfl rfl rfl rfl rfl ⟨rfl, rfl, rfl, rfl, rfl⟩ rfl rfl rfl rfl rfl (by kernel_rfl) Try.func10 (by kernel_rfl)
    (of_decide_eq_true (by kernel_rfl)) (by unfold Func.isWrapper; first | (rw [if_pos (by decide +kernel)]; kernel_rfl) | (rw [if_neg (by decide +kernel)]; exact ⟨rfl, rfl⟩))
    (fun os started H enc _ => lifted os started H enc)
end Go.Proofs.Ytmppolccfjfoaaa.countsFree
