/- What is proved: the law palimpsestlaw01.WireParts returns true for every input, and its arguments read as they did. No conditions. -/
import Derived.Test.YtmppolccfjfoaaaRows
import Derived.Test.YtmppolccfjfoaaaOpen
import Derived.Test.YtmppolccfjfoaaaVcMore
import Derived.Test.YtmppolccfjfoaaaWire4
set_option linter.unusedSimpArgs false
set_option linter.unusedVariables false
namespace Go.Proofs.Ytmppolccfjfoaaa
open Go.Vc
variable {K : Value → Heap → Prop} {h : Heap}

theorem allZ_snoc {l : List UInt8} {f k : Nat} (hf : f ≤ k) (hk : k < l.length) : allZ ((l.take (k + 1)).drop f) = (allZ ((l.take k).drop f) && (l[k] == 0)) := by
  unfold allZ
  rw [List.take_succ_eq_append_getElem hk, List.drop_append_of_le_length (by simp; omega)]
  simp

theorem beq_u8 (b : UInt8) : (b == 0) = decide ((b.toNat : Int) = 0) := by
  by_cases h : b = 0
  · subst h; rfl
  · have : ¬ (b.toNat : Int) = 0 := fun e => h (UInt8.toNat_inj.1 (by simpa using e))
    rw [decide_eq_false this]
    simpa using h

theorem WireParts_c {v : Value} {fs : List (List UInt8)} {f u : Int} (hB : Fields h v fs) (H : ∀ h', Ext h h' → K (.bool true) h') : CallsH Try.prog 6 #[v, .int .i64 f, .int .i64 u] h K ⟨⟩ := by
  obtain ⟨o, q0, a, hv, hat⟩ : ∃ o c a, v = .slice o fs.length c ∧ ∀ k (hk : k < fs.length), o = some a ∧ ∃ o' c', hcell h (elt a k) = some (.slice o' fs[k].length c') ∧ Bytes h (.slice o' fs[k].length c') fs[k] := by
    rcases hB with ⟨rfl, rfl⟩ | ⟨a, c, h1, _, h3⟩
    · exact ⟨_, _, ⟨0, 0, none⟩, rfl, fun k hk => absurd hk (by simp)⟩
    · refine ⟨_, _, a, h1, fun k hk => ⟨rfl, ?_⟩⟩
      obtain ⟨w, hw, hb⟩ := h3 k hk
      obtain ⟨o', c', rfl⟩ := hb.form
      exact ⟨o', c', hw, hb⟩
  have hoa := fun k hk => (hat k hk).1
  obtain ⟨O, hat⟩ := pick_nat (p := fun k (x : Option Addr × Nat) => ∀ hk : k < fs.length, hcell h (elt a k) = some (.slice x.1 fs[k].length x.2) ∧ Bytes h (.slice x.1 fs[k].length x.2) fs[k]) (n := fs.length)
    (fun k hk => by obtain ⟨o', c', e⟩ := (hat k hk).2; exact ⟨(o', c'), fun _ => e⟩)
  obtain ⟨l, hl⟩ : ∃ l, l = fs.flatten := ⟨_, rfl⟩
  have hfl := flatten_length fs
  rw [← hl] at hfl
  subst hv
  refine n6_calls ?_
  unfold n6
  by_cases hl0 : (100 : Int) < fs.length
  · simp (disch := omega) [hl0]
    exact wire_known_c H
  · simp (disch := omega) [hl0]
    refine loopA2 (fun x : Value × Nat => x.1) (fun x => .int .i64 x.2) (fun x h' => x.2 ≤ fs.length ∧ total (fs.take x.2) ≤ x.2 * 1000 ∧ OwnS 1 h' x.1 ((fs.take x.2).flatten.map byteV) ∧ Ext h h' ∧ (∀ b, blkV x.1 = some b → h.size ≤ b)) (fun x => fs.length - x.2)
      (.slice none 0 0, 0) ⟨rfl, rfl⟩ ⟨by simp, by simp [total], .nil, .refl _, fun b hb => by cases hb⟩ ?_
    rintro ⟨x, k⟩ h1 ⟨hk, ht, hO, hE, hF⟩
    dsimp only at hk ht hO hF
    by_cases hkn : k = fs.length
    · have ha : (fs.take k) = fs := by rw [hkn, List.take_length]
      rw [ha] at hO ht
      rw [← hl] at hO
      simp (disch := omega) [hkn]
      have hB1 := hB.ext hE
      refine Join_c hB1 (by omega) (by omega) fun v2 h2 hO2 hE2 hF2 => ?_
      rw [← hl] at hO2
      have hb2 := hO2.bytes
      have hba := hO.bytes.ext hE2
      refine Noughts_c hb2 (by omega) ?_
      by_cases hr : f < 0 ∨ u < f ∨ l.length < u
      · have hn : noughtR l f u = (false, 4) := by unfold noughtR; rw [if_pos hr]
        refine hba.form.elim fun o3 ho3 => ho3.elim fun c3 ho3 => ?_
        have hbs : Bytes h2 (.slice o3 l.length c3) l := by rw [← ho3]; exact hba
        by_cases h1 : f < 0
        · simp (disch := omega) [hn, Try.cv39_9 hb2, Try.cv39_9 hba, h1]
          refine wire_known_c fun h' e => ?_
          simp (disch := omega)
          exact H h' ((hE.trans hE2).trans e)
        by_cases h2 : u < f
        · simp (disch := omega) [hn, Try.cv39_9 hb2, Try.cv39_9 hba, h1, h2]
          refine wire_known_c fun h' e => ?_
          simp (disch := omega)
          exact H h' ((hE.trans hE2).trans e)
        · have h3 : (l.length : Int) < u := by omega
          simp (disch := omega) [hn, Try.cv39_9 hb2, Try.cv39_9 hba, Try.cv39_9 hbs, h1, h2, h3, ho3]
          refine wire_known_c fun h' e => ?_
          simp (disch := omega)
          exact H h' ((hE.trans hE2).trans e)
      · refine (Int.eq_ofNat_of_zero_le (show 0 ≤ f by omega)).elim fun f' hf => (Int.eq_ofNat_of_zero_le (show 0 ≤ u by omega)).elim fun u' hu => ?_
        have hn : noughtR l f u = (allZ ((l.take u').drop f'), 0) := by unfold noughtR; rw [if_neg hr, hf, hu]; rfl
        refine hba.form.elim fun o3 ho3 => ho3.elim fun c3 ho3 => ?_
        have hbs : Bytes h2 (.slice o3 l.length c3) l := by rw [← ho3]; exact hba
        simp (disch := omega) [hn, Try.cv39_9 hb2, Try.cv39_9 hba, Try.cv39_9 hbs, show ¬ f < 0 by omega, show ¬ u < f by omega, ho3, show ¬ (l.length : Int) < u by omega]
        refine loopA2 (fun a : Bool × Nat => .bool a.1) (fun a => .int .i64 a.2) (fun a h' => f' ≤ a.2 ∧ a.2 ≤ u' ∧ h' = h2 ∧ a.1 = allZ ((l.take a.2).drop f')) (fun a => u' - a.2) (true, f') ⟨rfl, by rw [hf]⟩ ⟨by dsimp only; omega, by dsimp only; omega, rfl, ?_⟩ ?_
        · dsimp only; rw [List.drop_eq_nil_of_le (by simp; omega)]; rfl
        · rintro ⟨b, k⟩ h3 ⟨h31, h32, h33, h34⟩
          dsimp only at h31 h32 h34
          by_cases hk2 : k = u'
          · rw [hk2] at h34
            simp (disch := omega) [hk2, hu, h33, h34]
            refine wire_known_c fun h' e => ?_
            simp (disch := omega)
            exact H h' ((hE.trans hE2).trans e)
          · have hu2 : k < u' := by omega
            have hz := allZ_snoc h31 (show k < l.length by omega)
            cases b with
            | true =>
              rw [← h34, beq_u8] at hz
              have hb4 := fun (h : 0 < l.length) => hbs.at h
              refine (hbs.at (by omega)).elim fun a3 hb4 => ?_
              have hA := hb4.2.2.2 k (by omega)
              by_cases h0 : ((l[k]'(by omega)).toNat : Int) = 0
              · simp (disch := omega) [hu2, hu, h33, hA, ho3, hb4.1, h0]
                exact ⟨k + 1, by simp, ⟨by omega, by omega, by simp [hz, h0]⟩, by omega⟩
              · simp (disch := omega) [hu2, hu, h33, hA, ho3, hb4.1, h0]
                exact ⟨k + 1, by simp, ⟨by omega, by omega, by rw [hz, decide_eq_false h0]; rfl⟩, by omega⟩
            | false =>
              simp (disch := omega) [hu2, hu, h33]
              rw [← h34] at hz
              exact ⟨k + 1, by simp, ⟨by omega, by omega, by simp [hz]⟩, by omega⟩
    · have hw := hcell_ext hE (hat k (by omega) (by omega)).1
      have hb := (hat k (by omega) (by omega)).2.ext hE
      by_cases hl1 : (1000 : Int) < fs[k].length
      · simp (disch := omega) [hoa k (by omega), hw, hl1]
        exact wire_known_c fun h' e => H h' (hE.trans e)
      · simp (disch := omega) [hoa k (by omega), hw, hl1]
        have e1 : (fs.take (k + 1)).flatten = (fs.take k).flatten ++ fs[k] := by
          rw [List.take_succ_eq_append_getElem (by omega)]
          simp only [List.flatten_append, List.flatten_cons, List.flatten_nil, List.append_nil]
        have e2 : total (fs.take (k + 1)) = total (fs.take k) + fs[k].length := by
          rw [List.take_succ_eq_append_getElem (by omega), total_append]; rfl
        have e3 := flatten_length (fs.take k)
        refine Hp_appB (e := 5) (l := (fs.take k).flatten) (by kernel_rfl) (by kernel_rfl) hO hb (by omega) fun v2 h2 hO2 hM2 hF2 _ => ?_
        simp (disch := omega) only [Hp_add_i64, ValI_iff]
        refine ⟨(v2, k + 1), rfl, rfl, ⟨by dsimp only; omega, by dsimp only; omega, ?_, hM2.ext_from hE (fun b hb hb' => by have := hF b hb'; omega), fun b hb => (hF2 b hb).elim (hF b) (fun x => by have := hE.size; omega)⟩, by dsimp only; omega⟩
        dsimp only
        rw [e1]; exact hO2

theorem Slc_fields {v : Value} {fs : List (List UInt8)} (f : Slc 1 h v (fun us l => ∃ u, us = [u] ∧ Bytes h u l) fs) : Fields h v fs := by
  rcases f with f | ⟨a, c, h1, h2, h3⟩
  · exact .inl f
  · refine .inr ⟨a, c, h1, h2, fun i hi => ?_⟩
    obtain ⟨us, -, hs, u, rfl, hb⟩ := h3 i hi
    exact ⟨u, by simpa using hs 0 (by simp), hb⟩

end Go.Proofs.Ytmppolccfjfoaaa
namespace Go.Proofs.Ytmppolccfjfoaaa.wireParts
open Go.ChangeShapes Go.WideShapes Go.ChangeAt Go.RowKit Go.Joins Go.Vc

theorem own : ownKnob Try.prog.godebug = none := by kernel_rfl
theorem laidOut : laidOutB Try.prog = true := by kernel_rfl

set_option maxRecDepth 100000 in
set_option maxHeartbeats 1000000 in
theorem lifted (os : Os) (started : os.Started) (H : Type) (enc : TypeId × Value → H) :
    ReturnsInHanded {} Try.checked os 6 .any (Rows.wirePartsSpec.pre6 enc Try.prog Try.f6 Rows.wirePartsRow.domain false) (Rows.wirePartsSpec.post enc Try.prog Try.f6 false true false false) := by
  refine returnsInHanded_of_change (C := Try.checked) own started (by kernel_rfl) Try.func6
    (ChangeSpec.witness6 (enc := enc) (C := Try.checked) false ⟨#[], #[.slice none 0 0, .int .i64 0, .int .i64 0], []⟩ 8 (by kernel_rfl) (by kernel_rfl) (by kernel_rfl) (by kernel_rfl)) ?_
  intro W base args ds gs before hval0 hW hcnd _
  have hval : ∀ (j : Nat) t v, Try.f6.params[j]? = some t → args[j]? = some v → Value.okWide Try.prog W .any base t v := hval0
  have hW' := hW
  obtain ⟨p, q, hA0, hV, rfl, hfz, hnd⟩ := hW
  have hA : DataW.TrodAll enc Try.prog W 0 (fun _ => true) true Try.f6.params.toList args.toList ds p := hA0
  rw [Try.params6] at hA hval
  obtain ⟨v0, vs0, d0, ds0, p0, q0, hargs, rfl, rfl, h0, r0⟩ := trodAll_cons hA
  obtain ⟨v1, vs1, d1, ds1, p1, q1, rfl, rfl, rfl, h1, r1⟩ := trodAll_cons r0
  obtain ⟨v2, vs2, d2, ds2, p2, q2, rfl, rfl, rfl, h2, r2⟩ := trodAll_cons r1
  obtain ⟨rfl, rfl, rfl⟩ := trodAll_nil r2
  obtain rfl : args = #[v0, v1, v2] := by cases args; simp_all
  obtain ⟨v, fs, hv, hF, _⟩ := (Laid.top (hval 0 57 v0 rfl rfl) h0 (by kernel_rfl)).slice (e := 39) (R := fun us l => ∃ u, us = [u] ∧ Bytes W.heap u l) (by kernel_rfl)
    (fun us hu => by obtain ⟨u, l, h1, h2, -⟩ := hu.bytes (e := 5) (by kernel_rfl) (by kernel_rfl) (by kernel_rfl); exact ⟨l, u, h1, h2⟩)
  obtain rfl : v0 = v := by simpa using hv
  rw [show Program.cellsOf Try.prog 39 = 1 by kernel_rfl] at hF
  obtain ⟨a, rfl, _, _, wa⟩ := open_int (k := .i64) (by kernel_rfl) (hval 1 3 v1 rfl rfl) h1
  obtain ⟨b, rfl, _, _, wb⟩ := open_int (k := .i64) (by kernel_rfl) (hval 2 3 v2 rfl rfl) h2
  refine ((WireParts_c (h := W.heap) (f := a) (u := b) (Slc_fields hF) (K := fun v h' => v = .bool true ∧ Ext W.heap h') (fun h' e => ⟨rfl, e⟩)).out W rfl).mono fun e W' ⟨v, he, hs, hv, hx⟩ => ?_
  exact ⟨v, he, hv ▸ law_post laidOut (by kernel_rfl) rfl (tb := 4) (by kernel_rfl) (by kernel_rfl) hW' (fun hg => by rw [hg]; rfl) (below_of hs hx)⟩

theorem proved : Rows.WirePartsSaid :=
  OpenClaim.holds_of_wide 6 Try.f6 rfl rfl rfl rfl rfl rfl rfl ⟨rfl, rfl, rfl, rfl, rfl⟩ rfl rfl rfl rfl rfl (by kernel_rfl) Try.func6 (by kernel_rfl)
    (of_decide_eq_true (by kernel_rfl)) (by unfold Func.isWrapper; first | (rw [if_pos (by decide +kernel)]; kernel_rfl) | (rw [if_neg (by decide +kernel)]; exact ⟨rfl, rfl⟩))
    (fun os started H enc _ => lifted os started H enc)
end Go.Proofs.Ytmppolccfjfoaaa.wireParts
