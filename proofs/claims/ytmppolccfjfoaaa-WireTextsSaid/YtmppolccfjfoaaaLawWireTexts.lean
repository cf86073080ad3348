/- What is proved: the law palimpsestlaw01.WireTexts returns true for every input, and its arguments read as they did. No conditions. -/
import Derived.Test.YtmppolccfjfoaaaRows
import Derived.Test.YtmppolccfjfoaaaOpen
import Derived.Test.YtmppolccfjfoaaaWire4
set_option linter.unusedSimpArgs false
set_option linter.unusedVariables false
namespace Go.Proofs.Ytmppolccfjfoaaa
open Go.Vc
variable {K : Value → Heap → Prop} {h : Heap}

theorem allZ_replicate (n : Nat) : allZ (List.replicate n 0) = true := by simp [allZ]

theorem textR_over {l s : List UInt8} {p m : Int} (hE : setTextE l.length p m s = 0) : textR (over l p.toNat (fieldB m.toNat s)) p m = (s, 0) := by
  unfold setTextE at hE
  split at hE
  · omega
  · rename_i hz
    have hz : fieldE l.length p m = 0 := by simpa using hz
    split at hE
    · omega
    · rename_i hs
      have hb := fieldE_zero hz
      obtain ⟨p', rfl⟩ := Int.eq_ofNat_of_zero_le hb.2.2.1
      obtain ⟨m', rfl⟩ := Int.eq_ofNat_of_zero_le hb.1
      simp only [Int.toNat_natCast]
      have hfl := fieldB_length (m := m') (s := s) (by omega)
      have hlen : (over l p' (fieldB m' s)).length = l.length := over_length (by omega)
      have hdrop : (over l p' (fieldB m' s)).drop p' = fieldB m' s ++ l.drop (p' + (4 + m')) := by
        unfold over
        rw [List.append_assoc, List.drop_append, List.drop_eq_nil_of_le (by simp; omega)]
        simp only [List.length_take, Nat.min_eq_left (show p' ≤ l.length by omega), Nat.sub_self, List.drop_zero, List.nil_append, hfl]
      have h4 : ((over l p' (fieldB m' s)).drop p').take 4 = leB 4 s.length := by
        rw [hdrop]; unfold fieldB
        rw [List.append_assoc, List.take_append_of_le_length (by simp), List.take_of_length_le (by simp)]
      have hn : leN (leB 4 s.length) = s.length := by rw [leN_leB]; exact Nat.mod_eq_of_lt (by omega)
      have htail : ∀ k, ((over l p' (fieldB m' s)).take (p' + 4 + m')).drop (p' + k) = (fieldB m' s).drop k := by
        intro k
        rw [← List.drop_drop, List.drop_take, hdrop, show p' + 4 + m' - p' = 4 + m' by omega, ← hfl, List.take_left]
      unfold textR
      rw [hlen, hz]
      simp only [ne_eq, not_true_eq_false, if_false, Int.toNat_natCast, h4, hn]
      rw [if_neg (by omega)]
      have h5 : ((over l p' (fieldB m' s)).take (p' + 4 + m')).drop (p' + 4 + s.length) = List.replicate (m' - s.length) 0 := by
        rw [show p' + 4 + s.length = p' + (4 + s.length) by omega, htail]; unfold fieldB
        rw [List.drop_append, List.drop_eq_nil_of_le (by simp)]
        simp
      rw [h5, allZ_replicate, if_pos rfl]
      have h6 : ((over l p' (fieldB m' s)).take (p' + 4 + s.length)).drop (p' + 4) = s := by
        rw [← List.drop_drop, List.drop_take, hdrop, show p' + 4 + s.length - p' = 4 + s.length by omega]
        unfold fieldB
        rw [List.append_assoc, List.append_assoc, List.take_append, List.take_of_length_le (by simp), List.drop_append, List.drop_eq_nil_of_le (by simp)]
        simp
      rw [h6]

theorem WireTexts_c {v : Value} {l s : List UInt8} {p m : Int} (hB : Bytes h v l) (H : ∀ h', Ext h h' → K (.bool true) h') : CallsH Try.prog 5 #[v, .int .i64 p, .agg #[.int .i64 m, str s]] h K ⟨⟩ := by
  have hE0 : Ext h (h.push (.cells #[.int .i64 m, str s] 49)) := push_ext (.refl h)
  replace hB := hB.ext hE0
  replace H : ∀ h', Ext (h.push (.cells #[.int .i64 m, str s] 49)) h' → K (.bool true) h' := fun h' e => H h' (hE0.trans e)
  clear hE0
  obtain ⟨h0, e0⟩ : ∃ h0, h0 = h.push (.cells #[.int .i64 m, str s] 49) := ⟨_, rfl⟩
  rw [← e0] at hB H
  have c0 : hcell h0 ⟨h.size, 0, none⟩ = some (.int .i64 m) := by simp [e0]
  have c1 : hcell h0 ⟨h.size, 1, none⟩ = some (str s) := by simp [e0]
  obtain ⟨o, q0, rfl⟩ := hB.form
  refine n5_calls ?_
  unfold n5
  by_cases hl : (10000 : Int) < l.length
  · simp (disch := omega) [hl, ← e0, c0, c1]
    exact wire_known_c H
  by_cases hls : (10000 : Int) < s.length
  · simp (disch := omega) [hl, hls, ← e0, c0, c1]
    exact wire_known_c H
  · simp (disch := omega) [hl, hls, ← e0, c0, c1]
    refine Hp_appB (e := 5) (l := []) (by kernel_rfl) (by kernel_rfl) .nil hB (by simp; omega) fun v1 h1 hO1 hM1 hF1 _ => ?_
    have hE1 : Ext h0 h1 := hM1.ext (fun b _ e => by cases e)
    have hlt1 : ∀ b, blkV v1 = some b → h0.size ≤ b := fun b hb => (hF1 b hb).resolve_left (by rintro ⟨⟩)
    simp (disch := omega)
    have hs77 : OwnS 1 (h1.push (.cells #[.int .u8 77] 5)) (.slice (some ⟨h1.size, 0, none⟩) 1 1) (([77] : List UInt8).map byteV) := OwnS_new (vs := [byteV 77]) rfl rfl
    refine Hp_appB1 (e := 5) (l := l) (by kernel_rfl) (by kernel_rfl) (hO1.ext (push_ext (.refl _))) hs77.bytes (by simp; omega) (by simp) fun B c h2 hO2 hM2 hF2 => ?_
    have hE2 : Ext h0 h2 := hM2.ext_from (push_ext hE1) (fun b hb hb' => by have := hlt1 b hb'; omega)
    have hBlt : h0.size ≤ B := hF2.elim (hlt1 B) (fun x => by have := hE1.size; simp at x; omega)
    clear hM1 hF1 hO1 hlt1 hM2 hF2 hs77
    have hsg := hO2.seg
    have hcc : l.length + 1 ≤ c := by simpa using hsg.2.1
    simp only [List.length_cons, List.length_nil, Nat.zero_add] at hO2
    -- what one's own bytes give
    have pre : ∀ {h' : Heap} {l' : List UInt8}, l'.length = l.length → OwnS 1 h' (.slice (some ⟨B, 0, none⟩) (l.length + 1) c) ((l' ++ [77]).map byteV) → Bytes h' (.slice (some ⟨B, 0, none⟩) l.length c) l' ∧ hcell h' (elt ⟨B, 0, none⟩ l.length) = some (byteV 77) := by
      intro h' l' hl' hO
      have h1 := (hO.pre (k := l.length) (by simp; omega)).1
      rw [← hl', List.take_left, hl'] at h1
      have h2 := hO.seg.2.2 l.length (by simp; omega)
      refine ⟨h1, ?_⟩
      rw [h2]
      simp [← hl']
    have hP2 := pre rfl hO2
    simp (disch := omega)
    refine Text_c hP2.1 (by omega) ?_
    simp (disch := omega) only [Hp_extract0, Hp_extract1]
    refine refText_c (hB.ext hE2) (by omega) ?_
    simp (disch := omega) [Try.cv39_9 hP2.1, Try.cv39_9 (hB.ext hE2)]
    by_cases hz : setTextE l.length p m s = 0
    · refine refSetText_c (hB.ext hE2) (by omega) (fun he => absurd hz he) (fun v4 h4 hE4 _ hb4 hF4 => ?_)
      simp (disch := omega) only [Hp_extract0, Hp_extract1]
      refine SetTextO_c (L := l ++ [77]) (hO2.ext hE4) (by simp) (by simp; omega) (fun he => absurd hz he) (fun h5 _ hO5 hM5 hpn hsm => ?_)
      have hfl := fieldB_length (m := m.toNat) (s := s) (by omega)
      have hov : over (l ++ [77]) p.toNat (fieldB m.toNat s) = over l p.toNat (fieldB m.toNat s) ++ [77] := by
        unfold over
        rw [List.take_append_of_le_length (by omega), List.drop_append_of_le_length (by omega)]
        simp
      have hgo := textR_over hz
      have hlo : (over l p.toNat (fieldB m.toNat s)).length = l.length := over_length (by omega)
      rw [hov] at hO5
      have hP5 := pre hlo hO5
      have hB3 : B < h2.size := hO2.lt rfl
      have hb5 : Bytes h5 v4 (over l p.toNat (fieldB m.toNat s)) := hb4.mod hM5 (fun b hb => by have := hF4 b hb; omega)
      simp (disch := omega) [Try.cv39_9 hP5.1, Try.cv39_9 hb5, hP5.2]
      refine Text_c hP5.1 (by omega) ?_
      have hE5 : Ext h0 h5 := hM5.ext_from (hE2.trans hE4) (fun b hb hb' => by omega)
      simp (disch := omega) [hgo]
      refine wire_known_c fun h' e => ?_
      simp (disch := omega)
      exact H h' (hE5.trans e)
    · have hne : ¬ (setTextE l.length p m s) = 0 := hz
      refine refSetText_c (hB.ext hE2) (by omega) (fun he => ?_) (fun v4 h4 _ he => absurd he hz)
      simp (disch := omega) only [Hp_extract0, Hp_extract1]
      refine SetTextO_c (L := l ++ [77]) hO2 (by simp) (by simp; omega) (fun _ => ?_) (fun h5 he => absurd he hz)
      simp (disch := omega) [Try.cv39_9 hP2.1, Try.cv39_9 (hB.ext hE2), hP2.2, hne]
      exact wire_known_c fun h' e => H h' (hE2.trans e)

end Go.Proofs.Ytmppolccfjfoaaa
namespace Go.Proofs.Ytmppolccfjfoaaa.wireTexts
open Go.ChangeShapes Go.WideShapes Go.ChangeAt Go.RowKit Go.Joins Go.Vc

theorem own : ownKnob Try.prog.godebug = none := by kernel_rfl
theorem laidOut : laidOutB Try.prog = true := by kernel_rfl

set_option maxRecDepth 100000 in
set_option maxHeartbeats 1000000 in
theorem lifted (os : Os) (started : os.Started) (H : Type) (enc : TypeId × Value → H) :
    ReturnsInHanded {} Try.checked os 5 .any (Rows.wireTextsSpec.pre6 enc Try.prog Try.f5 Rows.wireTextsRow.domain false) (Rows.wireTextsSpec.post enc Try.prog Try.f5 false true false false) := by
  refine returnsInHanded_of_change (C := Try.checked) own started (by kernel_rfl) Try.func5
    (ChangeSpec.witness6 (enc := enc) (C := Try.checked) false ⟨#[], #[.slice none 0 0, .int .i64 0, .agg #[.int .i64 0, .string ⟨#[]⟩]], []⟩ 8 (by kernel_rfl) (by kernel_rfl) (by kernel_rfl) (by kernel_rfl)) ?_
  intro W base args ds gs before hval0 hW hcnd _
  have hval : ∀ (j : Nat) t v, Try.f5.params[j]? = some t → args[j]? = some v → Value.okWide Try.prog W .any base t v := hval0
  have hW' := hW
  obtain ⟨p, q, hA0, hV, rfl, hfz, hnd⟩ := hW
  have hA : DataW.TrodAll enc Try.prog W 0 (fun _ => true) true Try.f5.params.toList args.toList ds p := hA0
  rw [Try.params5] at hA hval
  obtain ⟨v0, vs0, d0, ds0, p0, q0, hargs, rfl, rfl, h0, r0⟩ := trodAll_cons hA
  obtain ⟨v1, vs1, d1, ds1, p1, q1, rfl, rfl, rfl, h1, r1⟩ := trodAll_cons r0
  obtain ⟨v2, vs2, d2, ds2, p2, q2, rfl, rfl, rfl, h2, r2⟩ := trodAll_cons r1
  obtain ⟨rfl, rfl, rfl⟩ := trodAll_nil r2
  obtain rfl : args = #[v0, v1, v2] := by cases args; simp_all
  obtain ⟨l, hB, _⟩ := open_bytes (e := 5) (by kernel_rfl) (by kernel_rfl) (by kernel_rfl) (hval 0 39 v0 rfl rfl) h0
  obtain ⟨a, rfl, _, _, wa⟩ := open_int (k := .i64) (by kernel_rfl) (hval 1 3 v1 rfl rfl) h1
  obtain ⟨cs, rfl, hl, hL⟩ := Laid.topFlds (L := [(3, 0, 1), (9, 1, 1)]) (n := 2) (by kernel_rfl) (by kernel_rfl) (hval 2 49 v2 rfl rfl) h2
  obtain ⟨c0, c1, rfl⟩ := len2 hl
  obtain ⟨m, hm, -⟩ := (hL 0 _ _ _ rfl).int (k := .i64) (by kernel_rfl)
  obtain ⟨s, hs, -⟩ := (hL 1 _ _ _ rfl).str (by kernel_rfl)
  obtain rfl : c0 = .int .i64 m := by simpa using hm
  obtain rfl : c1 = str s := by simpa using hs
  refine ((WireTexts_c (h := W.heap) hB (K := fun v h' => v = .bool true ∧ Ext W.heap h') (fun h' e => ⟨rfl, e⟩)).out W rfl).mono fun e W' ⟨v, he, hs, hv, hx⟩ => ?_
  exact ⟨v, he, hv ▸ law_post laidOut (by kernel_rfl) rfl (tb := 4) (by kernel_rfl) (by kernel_rfl) hW' (fun hg => by rw [hg]; rfl) (below_of hs hx)⟩

theorem proved : Rows.WireTextsSaid :=
  OpenClaim.holds_of_wide 5 Try.f5 rfl rfl rfl rfl rfl rfl rfl ⟨rfl, rfl, rfl, rfl, rfl⟩ rfl rfl rfl rfl rfl (by kernel_rfl) Try.func5 (by kernel_rfl)
    (of_decide_eq_true (by kernel_rfl)) (by unfold Func.isWrapper; first | (rw [if_pos (by decide +kernel)]; kernel_rfl) | (rw [if_neg (by decide +kernel)]; exact ⟨rfl, rfl⟩))
    (fun os started H enc _ => lifted os started H enc)
end Go.Proofs.Ytmppolccfjfoaaa.wireTexts
