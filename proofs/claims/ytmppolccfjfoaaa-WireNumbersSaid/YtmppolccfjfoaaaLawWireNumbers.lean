/- What is proved: the law palimpsestlaw01.WireNumbers returns true for every input, and its arguments read as they did. No conditions. -/
import Derived.Test.YtmppolccfjfoaaaRows
import Derived.Test.YtmppolccfjfoaaaClose
import Derived.Test.YtmppolccfjfoaaaWire4
set_option linter.unusedSimpArgs false
set_option linter.unusedVariables false
namespace Go.Proofs.Ytmppolccfjfoaaa
open Go.Vc
variable {K : Value → Heap → Prop} {h : Heap}

theorem getR_over {l : List UInt8} {p n : Int} {x : Nat} (hE : setE l.length p n x = 0) (hx : x < 18446744073709551616) : getR (over l p.toNat (leB n.toNat x)) p n = (x, 0) := by
  unfold setE at hE
  unfold getR
  split at hE
  · omega
  · rename_i hn
    split at hE
    · rename_i hp
      split at hE
      · omega
      · rename_i hxs
        have hlen : (over l p.toNat (leB n.toNat x)).length = l.length := over_length (by simp; omega)
        rw [if_neg hn, if_pos (by rw [hlen]; exact hp)]
        have : ((over l p.toNat (leB n.toNat x)).drop p.toNat).take n.toNat = leB n.toNat x := by
          unfold over
          rw [List.append_assoc, List.drop_append, List.drop_eq_nil_of_le (by simp; omega)]
          simp only [List.length_take, Nat.min_eq_left (show p.toNat ≤ l.length by omega), Nat.sub_self, List.drop_zero, List.nil_append]
          rw [List.take_append_of_le_length (by simp), List.take_of_length_le (by simp)]
        rw [this, leN_leB, Nat.mod_eq_of_lt (by omega)]
    · omega

theorem over_snoc {l' l : List UInt8} {x : UInt8} (h : l'.length = l.length) : over (l' ++ [x]) 0 l = l ++ [x] := by
  unfold over
  rw [List.take_zero, List.nil_append, Nat.zero_add, ← h, List.drop_left]

theorem vals5 (k : Nat) (hk : k < 5) : ∃ x : Nat, x < 18446744073709551616 ∧ [Value.int .u64 0, .int .u64 255, .int .u64 65537, .int .u64 1099511627776, .int .u64 18446744073709551615][((k : Int)).toNat]? = some (.int .u64 x) := by
  match k, hk with
  | 0, _ => exact ⟨0, by decide, rfl⟩
  | 1, _ => exact ⟨255, by decide, by kernel_rfl⟩
  | 2, _ => exact ⟨65537, by decide, by kernel_rfl⟩
  | 3, _ => exact ⟨1099511627776, by decide, by kernel_rfl⟩
  | 4, _ => exact ⟨18446744073709551615, by decide, by kernel_rfl⟩

theorem WireNumbers_c {v : Value} {l : List UInt8} {p n : Int} (hB : Bytes h v l) (H : ∀ h', Ext h h' → K (.bool true) h') : CallsH Try.prog 4 #[v, .int .i64 p, .int .i64 n] h K ⟨⟩ := by
  obtain ⟨o, c0, rfl⟩ := hB.form
  refine n4_calls ?_
  unfold n4
  by_cases hl : (10000 : Int) < l.length
  · simp (disch := omega) [hl]
    exact wire_known_c H
  · simp (disch := omega)
    refine Hp_appB (e := 5) (l := []) (by kernel_rfl) (by kernel_rfl) .nil hB (by simp; omega) fun v1 h1 hO1 hM1 hF1 _ => ?_
    have hE1 : Ext h h1 := hM1.ext (fun b _ e => by cases e)
    have hlt1 : ∀ b, blkV v1 = some b → h.size ≤ b := fun b hb => (hF1 b hb).resolve_left (by rintro ⟨⟩)
    simp (disch := omega)
    have hs77 : OwnS 1 (h1.push (.cells #[.int .u8 77] 5)) (.slice (some ⟨h1.size, 0, none⟩) 1 1) (([77] : List UInt8).map byteV) := OwnS_new (vs := [byteV 77]) rfl rfl
    refine Hp_appB1 (e := 5) (l := l) (by kernel_rfl) (by kernel_rfl) (hO1.ext (push_ext (.refl _))) hs77.bytes (by simp; omega) (by simp) fun B c h2 hO2 hM2 hF2 => ?_
    have hE2 : Ext h h2 := hM2.ext_from (push_ext hE1) (fun b hb hb' => by have := hlt1 b hb'; omega)
    have hBlt : h.size ≤ B := hF2.elim (hlt1 B) (fun x => by have := hE1.size; simp at x; omega)
    clear hM1 hF1 hO1 hlt1 hM2 hF2 hs77
    have hsg := hO2.seg
    have hcc : l.length + 1 ≤ c := by simpa using hsg.2.1
    simp only [List.length_cons, List.length_nil, Nat.zero_add] at hO2
    -- what one's own bytes give
    have pre : ∀ {h' : Heap} {l' : List UInt8}, l'.length = l.length → OwnS 1 h' (.slice (some ⟨B, 0, none⟩) (l.length + 1) c) ((l' ++ [77]).map byteV) → Bytes h' (.slice (some ⟨B, 0, none⟩) l.length c) l' ∧ hcell h' (elt ⟨B, 0, none⟩ l.length) = some (byteV 77) := by
      intro h' l' hl' hO
      have h1 := (hO.pre (k := l.length) (by simp; omega)).1
      rw [← hl', List.take_left, hl'] at h1
      have h2 := hO.seg.2.2 l.length (by simp; omega)
      refine ⟨h1, ?_⟩
      rw [h2]
      simp [← hl']
    have hP2 := pre rfl hO2
    simp (disch := omega)
    refine Get_c hP2.1 (by omega) ?_
    simp (disch := omega) only [Hp_extract0, Hp_extract1]
    refine refGet_c (hB.ext hE2) (by omega) ?_
    simp (disch := omega) [Try.cv39_9 hP2.1, Try.cv39_9 (hB.ext hE2)]
    refine loopA1 (fun k : Nat => .int .i64 k) (fun k h' => k ≤ 5 ∧ OwnS 1 h' (.slice (some ⟨B, 0, none⟩) (l.length + 1) c) ((l ++ [77]).map byteV) ∧ Ext h h') (fun k => 5 - k) 0 rfl ⟨by omega, hO2, hE2⟩ ?_
    rintro k h3 ⟨hk, hO3, hE3⟩
    have hP3 := pre rfl hO3
    by_cases hk5 : k = 5
    · simp (disch := omega) [hk5]
      exact wire_known_c fun h' e => H h' (hE3.trans e)
    · refine (vals5 k (by omega)).elim fun x hxv => ?_
      have hx := hxv.1
      have hv := hxv.2
      have hix := fun {K : Value → Heap → Prop} {h : Heap} => Hp_indexA (P := Try.prog) (q := false) (K := K) (h := h) (t := 43) (len := 5) (e := 25) (k := .i64) (n := k) (by kernel_rfl) (show kindFits Try.prog 25 (.int .u64 x) = true by kernel_rfl) (by omega) (by omega) hv
      simp (disch := omega) [hix]
      by_cases hz : setE l.length p n x = 0
      · refine refSet_c (x := x) (hB.ext hE3) (by omega) hx (fun h' _ he => absurd hz he) (fun v4 h4 hE4 _ hb4 hF4 => ?_)
        simp (disch := omega) only [Hp_extract0, Hp_extract1]
        refine SetO_c (L := l ++ [77]) (x := x) (hO3.ext hE4) (by simp) (by simp; omega) hx (fun he => absurd hz he) (fun h5 _ hO5 hM5 hpn => ?_)
        have hov : over (l ++ [77]) p.toNat (leB n.toNat x) = over l p.toNat (leB n.toNat x) ++ [77] := by
          unfold over
          rw [List.take_append_of_le_length (by omega), List.drop_append_of_le_length (by simp; omega)]
          simp
        have hgo := getR_over hz hx
        have hlo : (over l p.toNat (leB n.toNat x)).length = l.length := over_length (by simp; omega)
        rw [hov] at hO5
        have hP5 := pre hlo hO5
        have hB3 : B < h3.size := hO3.lt rfl
        have hb5 : Bytes h5 v4 (over l p.toNat (leB n.toNat x)) := hb4.mod hM5 (fun b hb => by have := hF4 b hb; omega)
        simp (disch := omega) [Try.cv39_9 hP5.1, Try.cv39_9 hb5, hP5.2]
        refine JoinN.mk ?_
        simp (disch := omega)
        refine Get_c hP5.1 (by omega) ?_
        simp (disch := omega) [hgo]
        have hE5 : Ext h h5 := hM5.ext_from (hE3.trans hE4) (fun b hb hb' => by omega)
        refine Hp_copyB (L := over l p.toNat (leB n.toNat x) ++ [77]) (m := l) (by kernel_rfl) hO5 (by simp; omega) (hB.ext hE5) (fun h6 hO6 hM6 => ?_)
        rw [List.take_length, over_snoc (by exact hlo)] at hO6
        simp (disch := omega)
        exact ⟨k + 1, by simp, ⟨by omega, by simpa using hO6, hM6.ext_from hE5 (fun b hb hb' => by omega)⟩, by omega⟩
      · have hne : ¬ (setE l.length p n x) = 0 := hz
        refine refSet_c (x := x) (hB.ext hE3) (by omega) hx (fun h4 hE4 _ => ?_) (fun v4 h4 _ he => absurd he hz)
        simp (disch := omega) only [Hp_extract0, Hp_extract1]
        refine SetO_c (L := l ++ [77]) (x := x) (hO3.ext hE4) (by simp) (by simp; omega) hx (fun _ => ?_) (fun h5 he => absurd he hz)
        have hP4 := pre rfl (hO3.ext hE4)
        simp (disch := omega) [Try.cv39_9 hP4.1, Try.cv39_9 (hB.ext (hE3.trans hE4)), hP4.2]
        refine JoinN.mk ?_
        simp (disch := omega) [hne]
        refine Hp_copyB (L := l ++ [77]) (m := l) (by kernel_rfl) (hO3.ext hE4) (by simp) (hB.ext (hE3.trans hE4)) (fun h6 hO6 hM6 => ?_)
        rw [List.take_length, over_snoc (by rfl)] at hO6
        simp (disch := omega)
        exact ⟨k + 1, by simp, ⟨by omega, by simpa using hO6, hM6.ext_from (hE3.trans hE4) (fun b hb hb' => by omega)⟩, by omega⟩

end Go.Proofs.Ytmppolccfjfoaaa
namespace Go.Proofs.Ytmppolccfjfoaaa.wireNumbers
open Go.ChangeShapes Go.WideShapes Go.ChangeAt Go.RowKit Go.Joins Go.Vc

theorem own : ownKnob Try.prog.godebug = none := by kernel_rfl
theorem laidOut : laidOutB Try.prog = true := by kernel_rfl

set_option maxRecDepth 100000 in
theorem lifted (os : Os) (started : os.Started) (H : Type) (enc : TypeId × Value → H) :
    ReturnsInHanded {} Try.checked os 4 .any (Rows.wireNumbersSpec.pre6 enc Try.prog Try.f4 Rows.wireNumbersRow.domain false) (Rows.wireNumbersSpec.post enc Try.prog Try.f4 false true false false) := by
  refine returnsInHanded_of_change (C := Try.checked) own started (by kernel_rfl) Try.func4
    (ChangeSpec.witness6 (enc := enc) (C := Try.checked) false ⟨#[], #[.slice none 0 0, .int .i64 0, .int .i64 0], []⟩ 8 (by kernel_rfl) (by kernel_rfl) (by kernel_rfl) (by kernel_rfl)) ?_
  intro W base args ds gs before hval0 hW hcnd _
  have hval : ∀ (j : Nat) t v, Try.f4.params[j]? = some t → args[j]? = some v → Value.okWide Try.prog W .any base t v := hval0
  have hW' := hW
  obtain ⟨p, q, hA0, hV, rfl, hfz, hnd⟩ := hW
  have hA : DataW.TrodAll enc Try.prog W 0 (fun _ => true) true Try.f4.params.toList args.toList ds p := hA0
  rw [Try.params4] at hA hval
  obtain ⟨v0, vs0, d0, ds0, p0, q0, hargs, rfl, rfl, h0, r0⟩ := trodAll_cons hA
  obtain ⟨v1, vs1, d1, ds1, p1, q1, rfl, rfl, rfl, h1, r1⟩ := trodAll_cons r0
  obtain ⟨v2, vs2, d2, ds2, p2, q2, rfl, rfl, rfl, h2, r2⟩ := trodAll_cons r1
  obtain ⟨rfl, rfl, rfl⟩ := trodAll_nil r2
  obtain rfl : args = #[v0, v1, v2] := by cases args; simp_all
  obtain ⟨l, hB, _⟩ := open_bytes (e := 5) (by kernel_rfl) (by kernel_rfl) (by kernel_rfl) (hval 0 39 v0 rfl rfl) h0
  obtain ⟨a, rfl, _, _, wa⟩ := open_int (k := .i64) (by kernel_rfl) (hval 1 3 v1 rfl rfl) h1
  obtain ⟨b, rfl, _, _, wb⟩ := open_int (k := .i64) (by kernel_rfl) (hval 2 3 v2 rfl rfl) h2
  refine ((WireNumbers_c (h := W.heap) (p := a) (n := b) hB (K := fun v h' => v = .bool true ∧ Ext W.heap h') (fun h' e => ⟨rfl, e⟩)).out W rfl).mono fun e W' ⟨v, he, hs, hv, hx⟩ => ?_
  exact ⟨v, he, hv ▸ law_post laidOut (by kernel_rfl) rfl (tb := 4) (by kernel_rfl) (by kernel_rfl) hW' (fun hg => by rw [hg]; rfl) (below_of hs hx)⟩

theorem proved : Rows.WireNumbersSaid :=
  OpenClaim.holds_of_wide 4 Try.f4 rfl rfl rfl rfl rfl rfl rfl ⟨rfl, rfl, rfl, rfl, rfl⟩ rfl rfl rfl rfl rfl (by kernel_rfl) Try.func4 (by kernel_rfl)
    (of_decide_eq_true (by kernel_rfl)) (by unfold Func.isWrapper; first | (rw [if_pos (by decide +kernel)]; kernel_rfl) | (rw [if_neg (by decide +kernel)]; exact ⟨rfl, rfl⟩))
    (fun os started H enc _ => lifted os started H enc)
end Go.Proofs.Ytmppolccfjfoaaa.wireNumbers
