/- What is proved: the law palimpsestlaw10.CountsAll returns true for every input, and its arguments read as they did. No conditions. -/
import Derived.Test.YtmppolccfjfoaaaRows
import Derived.Test.YtmppolccfjfoaaaOpen
import Derived.Test.YtmppolccfjfoaaaCounts7
set_option linter.unusedSimpArgs false
set_option linter.unusedVariables false
namespace Go.Proofs.Ytmppolccfjfoaaa
open Go.Vc
variable {K : Value → Heap → Prop} {h : Heap}

set_option maxHeartbeats 16000000 in
theorem CountsAll_c {v : Value} {l : List UInt8} {o t leave : Int} (hB : Bytes h v l) (hle : -9223372036854775808 ≤ leave ∧ leave < 9223372036854775808) (H : ∀ h', Ext h h' → K (.bool true) h') :
    CallsH Try.prog 11 #[v, .agg #[.int .i64 o, .int .i64 t, .int .i64 leave]] h K ⟨⟩ := by
  obtain ⟨h0, e0⟩ : ∃ h0, h0 = ((h.push (.cells #[v] 39)).push (.cells #[.int .i64 o, .int .i64 t, .int .i64 leave] 93)).push (.cells #[.bool false] 4) := ⟨_, rfl⟩
  have hE0 : Ext h h0 := by rw [e0]; exact (by repeat' (first | (with_reducible exact Ext.refl _) | (with_reducible assumption) | (with_reducible refine push_ext ?_) | (with_reducible refine hset_ext ?_ ?_) | (with_reducible refine Ext.trans ?_ (by assumption)) | omega | (simp; done) | (simp; omega) | (refine Ext.size ?_) | (refine Nat.le_succ_of_le (Ext.size ?_))))
  have cb : Cel h0 h.size 0 v := by rw [e0]; simp (disch := omega) [Cel_iff]
  have c10 : Cel h0 (h.size + 1) 0 (.int .i64 o) := by rw [e0]; simp (disch := omega) [Cel_iff]
  have c11 : Cel h0 (h.size + 1) 1 (.int .i64 t) := by rw [e0]; simp (disch := omega) [Cel_iff]
  have c12 : Cel h0 (h.size + 1) 2 (.int .i64 leave) := by rw [e0]; simp (disch := omega) [Cel_iff]
  have cr : Cel h0 (h.size + 2) 0 (.bool false) := by rw [e0]; simp (disch := omega) [Cel_iff]
  have hz0 : h0.size = h.size + 3 := by simp [e0]
  replace hB := hB.ext hE0
  obtain ⟨q, q0, rfl⟩ := hB.form
  refine n11_calls ?_
  unfold n11
  simp (disch := omega) [← e0]
  clear e0
  refine JoinN_in3 (fun a b c g => ∃ bo bl : Nat, a = .pointer (some ⟨bo, 0, none⟩) ∧ b = .int .i64 t ∧ c = .pointer (some ⟨bl, 0, none⟩) ∧ Ext h0 g ∧ Cel g bo 0 (.int .i64 o) ∧ Cel g bl 0 (.int .i64 leave) ∧ h0.size ≤ bo ∧ h0.size ≤ bl) (fun k hk => ?_) (fun a b c g hx => ?_)
  · simp (disch := omega) [c10.get, c11.get, c12.get]
    refine ⟨hk _ _ _ _ ⟨_, _, rfl, rfl, rfl, (by repeat' (first | (with_reducible exact Ext.refl _) | (with_reducible assumption) | (with_reducible refine push_ext ?_) | (with_reducible refine hset_ext ?_ ?_) | (with_reducible refine Ext.trans ?_ (by assumption)) | omega | (simp; done) | (simp; omega) | (refine Ext.size ?_) | (refine Nat.le_succ_of_le (Ext.size ?_)))), ?_, ?_, ?_, ?_⟩, hk _ _ _ _ ⟨_, _, rfl, rfl, rfl, (by repeat' (first | (with_reducible exact Ext.refl _) | (with_reducible assumption) | (with_reducible refine push_ext ?_) | (with_reducible refine hset_ext ?_ ?_) | (with_reducible refine Ext.trans ?_ (by assumption)) | omega | (simp; done) | (simp; omega) | (refine Ext.size ?_) | (refine Nat.le_succ_of_le (Ext.size ?_)))), ?_, ?_, ?_, ?_⟩⟩
    all_goals first | omega | (simp (disch := omega) [Cel_iff]; done)
  obtain ⟨bo, bl, rfl, rfl, rfl, eg, co, cl, hbo, hbl⟩ := hx
  have cb := cb.ext eg
  have cr := cr.ext eg
  replace hB := hB.ext eg
  have hEg := hE0.trans eg
  have hqB : ∀ b, l ≠ [] → blkV (.slice q l.length q0) = some b → b < g.size := fun b hn hb => hB.lt hb hn
  have zg := eg.size
  have lo := co.lt
  have ll := cl.lt
  clear c10 c11 c12 eg hE0
  by_cases hl : (600 : Int) < l.length
  · simp (disch := omega) [hl, cb.get]
    refine Cknown_c fun h1 e1 => ?_
    have cr := cr.ext e1
    simp (disch := omega) [cr.get, cr.free]
    refine RetD_nil ?_
    simp (disch := omega) [cr.get, cr.free]
    exact H _ (hset_ext (hEg.trans e1) (by simp; omega))
  · simp (disch := omega) [hl, cb.get]
    refine Hp_appB (e := 5) (l := []) (by kernel_rfl) (by kernel_rfl) .nil hB (by simp; omega) fun v3 h3 hO3 hM3 hF3 _ => ?_
    have e3 : Ext g h3 := hM3.ext (fun b _ e => by cases e)
    have hlt3 : ∀ b, blkV v3 = some b → g.size ≤ b := fun b hb => (hF3 b hb).resolve_left (by rintro ⟨⟩)
    clear hM3 hF3
    simp only [List.nil_append] at hO3
    have co := co.ext e3
    simp (disch := omega) [co.get]
    refine CAll_c hO3.bytes (by omega) fun h4 o4 q4 e4 hz4 cA hBA cB hFA => ?_
    have co := co.ext e4
    simp (disch := omega) [co.get]
    refine Widen_c (hO3.bytes.ext e4) (by omega) fun vw h5 e5 hBw hFw => ?_
    have e34 := e3.trans (e4.trans e5)
    have cb := cb.ext e34
    have cr := cr.ext e34
    have cl := cl.ext e34
    have co := co.ext e5
    have hE5 := hEg.trans e34
    replace hB := hB.ext e34
    have hlt4 : ∀ b, blkV v3 = some b → b < h3.size := fun b hb => hO3.lt hb
    have hO5 := hO3.ext (e4.trans e5)
    have cA := hcell_ext e5 cA
    have cB := hcell_ext e5 cB
    have hBA4 := fun b (hn : l ≠ []) hb => hBA.lt (b := b) hb hn
    replace hBA := hBA.ext e5
    refine (hO3.bytes.form).elim fun o3 hx => hx.elim fun q3 hv3 => ?_
    have z3 := e3.size
    have z4 := e4.size
    have z5 := e5.size
    simp (disch := omega) [hv3]
    refine loopA1 (fun k : Nat => .int .i64 k) (fun k h' => k ≤ l.length ∧ Mod (fun x => blkV v3 = some x) h5 h' ∧ ∃ L : List UInt8, L.length = l.length ∧ OwnS 1 h' v3 (L.map byteV)) (fun k => l.length - k) 0 rfl ⟨by omega, Mod.refl _ _, l, rfl, hO5⟩ ?_
    rintro k h6 ⟨hk, hM6, hL⟩
    by_cases hkn : k = l.length
    · clear hL
      have hg0 : ∀ b, b < g.size → ¬ blkV v3 = some b := fun b hb e => by have := hlt3 b e; omega
      have hg3 : ∀ b, h3.size ≤ b → ¬ blkV v3 = some b := fun b hb e => by have := hlt4 b e; omega
      have cb := cb.mod hM6 (hg0 _ (by omega))
      have cr := cr.mod hM6 (hg0 _ (by omega))
      have co := co.mod hM6 (hg0 _ (by omega))
      have cl := cl.mod hM6 (hg0 _ (by omega))
      have cA := (hM6.cell (a := ⟨h3.size, 0, none⟩) (hcell_lt cA) (hg3 _ (Nat.le_refl _))).trans cA
      have cB := (hM6.cell (a := ⟨h3.size + 1, 0, none⟩) (hcell_lt cB) (hg3 _ (Nat.le_succ _))).trans cB
      have hBl : ∀ a, blkV (.slice o4 l.length q4) = some a → h3.size ≤ a := fun a ha => by
        cases o4 with
        | none => cases ha
        | some x => cases ha; exact hFA x rfl
      replace hBA := hBA.modX hM6 (fun b _ hb _ => hg3 b (hBl b hb))
      replace hBw := hBw.modX hM6 (fun b _ hb _ => hg3 b (by have := hFw b hb; omega))
      replace hB := hB.modX hM6 (fun b hn hb _ => hg0 b (hqB b hn hb))
      have hE6 : Ext h h6 := hM6.ext_from hE5 (fun b hb hb' => by have := hlt3 b hb'; have := hEg.size; omega)
      have s6 := hM6.size
      refine hBw.form.elim fun ow hx => hx.elim fun qw hvw => ?_
      simp (disch := omega) [hkn, hv3, hvw]
      have hBA4' : ∀ b, l ≠ [] → blkV (.slice o4 l.length q4) = some b → b < h4.size := fun b hn hb => hBA4 b hn hb
      clear hM6 hO5 hO3 hlt3 hlt4 hg0 hg3 hFw hE5 hEg hBA4
      refine JoinN_in0 (fun H => Ext h6 H) (fun kk hkk => ?_) (fun h7 e7 => ?_)
      · simp (disch := omega) [co.get]
        refine RefWidth_c ?_
        by_cases hw : wd o = 0 ∨ wd t = 0
        · have hwl : (widenR l o t).1.length = 0 := by rw [widenR_bad hw]; rfl
          have hwe : (widenR l o t).2 = 2 := by rw [widenR_bad hw]
          by_cases hw0 : wd o = 0
          · simp (disch := omega) [hw0, hwl, hwe, hvw]
            exact hkk _ (.refl _)
          · have hwt : wd t = 0 := by omega
            simp (disch := omega) [hw0]
            refine RefWidth_c ?_
            simp (disch := omega) [hw0, hwt, hwl, hwe, hvw]
            exact hkk _ (.refl _)
        · have hw0 : wd o ≠ 0 := fun e => hw (.inl e)
          have hwt : wd t ≠ 0 := fun e => hw (.inr e)
          simp (disch := omega) [hw0]
          refine RefWidth_c ?_
          simp (disch := omega) [hw0, hwt, cb.get, co.get]
          refine RefWiden_c hB (by omega) hw0 hwt fun vn h7 e7 hBn => ?_
          have hBw7 := hBw.ext e7
          rw [hvw] at hBw7
          have co := co.ext e7
          have cb := cb.ext e7
          simp (disch := omega) [hvw, Try.cv39_9 hBw7, Try.cv39_9 hBn]
          refine Split.mk (fun hz => ?_) (fun hz => ?_)
          · have hok : ∀ j, j < many l.length o → cnt l (wd o) j < 2 ^ wd t := by
              intro j hj
              apply Classical.byContradiction
              intro hn
              rw [widenR_no hw hj hn] at hz
              exact absurd hz (by decide)
            obtain ⟨wb, hwb⟩ : ∃ wb, wb = wL l (wd o) (wd t) (wN l.length o t) (many l.length o) := ⟨_, rfl⟩
            have hback := widen_back hw hok wb hwb
            have e1 : (widenR l o t).1 = wb := by rw [widenR_ok hw hok, hwb]
            rw [e1] at hBw7 hvw
            have hwbl : wb.length < 100000 := by
              have h1 := Nat.mul_le_mul (many_bd l.length o) (wok_pos (wok_wd hwt)).2
              rw [hwb, wL_len]
              unfold wN
              omega
            simp (disch := omega) [co.get, cb.get, hvw]
            refine Widen_c hBw7 hwbl fun vk h8 e8 hBk hFk => ?_
            have co := co.ext e8
            have cb := cb.ext e8
            have hB8 := hB.ext (e7.trans e8)
            simp (disch := omega) [co.get, cb.get]
            refine RefMany_c hB8 (by omega) hw0 ?_
            have hmb := many_bd l.length o
            have hkl : (widenR wb t o).1.length < 1000000000 := by
              have h1 := Nat.mul_le_mul (many_bd wb.length t) (wok_pos (wok_wd hw0)).2
              unfold widenR
              split
              · simp
              · split
                · dsimp only
                  rw [wL_len]
                  unfold wN
                  omega
                · simp
            have hr0 := hback.1
            refine loopA1 (fun k : Nat => .int .i64 k) (fun k h' => Ext h8 h' ∧ k ≤ many l.length o) (fun k => many l.length o - k) 0 rfl ⟨.refl _, by omega⟩ ?_
            rintro i h9 ⟨e9, hi⟩
            have co := co.ext e9
            have cb := cb.ext e9
            by_cases him : i = many l.length o
            · simp (disch := omega) [him]
              exact hkk _ ((e7.trans e8).trans e9)
            · have hbi := hback.2 i (by omega)
              simp (disch := omega) [co.get]
              refine CGet_c (hBk.ext e9) hkl fun h10 e10 => ?_
              have co := co.ext e10
              have cb := cb.ext e10
              rw [hbi.1, hbi.2]
              simp (disch := omega) [hr0, co.get, cb.get]
              refine RefAt_c ((hB8.ext e9).ext e10) (by omega) hw0 (many_le (by omega)) ?_
              simp (disch := omega)
              exact ⟨i + 1, by simp, ⟨e9.trans e10, by omega⟩, by omega⟩
          · simp (disch := omega)
            exact hkk _ e7
      · have cb := cb.ext e7
        have cr := cr.ext e7
        have co := co.ext e7
        have cl := cl.ext e7
        have cA := hcell_ext e7 cA
        have cB := hcell_ext e7 cB
        replace hB := hB.ext e7
        replace hBA := hBA.ext e7
        have hE7 := hE6.trans e7
        have s7 := e7.size
        clear hBw hvw
        obtain ⟨M, hM⟩ : ∃ M, M = many l.length o := ⟨_, rfl⟩
        have hMb := many_bd l.length o
        simp (disch := omega)
        refine JoinN_in0 (fun H => Ext h7 H ∧ Cel H h7.size 0 (.int .i64 M)) (fun kk hkk => ?_) (fun h8 hx => ?_)
        · simp (disch := omega) [co.get]
          refine RefWidth_c ?_
          by_cases hw0 : wd o = 0
          · have hM0 : M = 0 := by rw [hM]; unfold many; rw [hw0]; simp
            simp (disch := omega) [hw0]
            refine hkk _ ⟨(by repeat' (first | (with_reducible exact Ext.refl _) | (with_reducible assumption) | (with_reducible refine push_ext ?_) | (with_reducible refine hset_ext ?_ ?_) | (with_reducible refine Ext.trans ?_ (by assumption)) | omega | (simp; done) | (simp; omega) | (refine Ext.size ?_) | (refine Nat.le_succ_of_le (Ext.size ?_)))), ?_⟩
            simp (disch := omega) [Cel_iff, hM0]
          · simp (disch := omega) [hw0, cb.get, co.get]
            refine RefMany_c (hB.ext (by repeat' (first | (with_reducible exact Ext.refl _) | (with_reducible assumption) | (with_reducible refine push_ext ?_) | (with_reducible refine hset_ext ?_ ?_) | (with_reducible refine Ext.trans ?_ (by assumption)) | omega | (simp; done) | (simp; omega) | (refine Ext.size ?_) | (refine Nat.le_succ_of_le (Ext.size ?_))))) (by omega) hw0 ?_
            simp (disch := omega)
            refine hkk _ ⟨(by repeat' (first | (with_reducible exact Ext.refl _) | (with_reducible assumption) | (with_reducible refine push_ext ?_) | (with_reducible refine hset_ext ?_ ?_) | (with_reducible refine Ext.trans ?_ (by assumption)) | omega | (simp; done) | (simp; omega) | (refine Ext.size ?_) | (refine Nat.le_succ_of_le (Ext.size ?_)))), ?_⟩
            simp (disch := omega) [Cel_iff, hM]
        obtain ⟨e8, cM⟩ := hx
        have cb := cb.ext e8
        have cr := cr.ext e8
        have co := co.ext e8
        have cl := cl.ext e8
        have cA := hcell_ext e8 cA
        have cB := hcell_ext e8 cB
        replace hB := hB.ext e8
        replace hBA := hBA.ext e8
        replace hE7 := hE7.trans e8
        have lM := cM.lt
        have s7 := e7.size
        refine JoinN.mk ?_
        simp (disch := omega)
        refine JoinN.mk ?_
        refine loopA2 (fun a : List Nat × Nat × Nat => .tuple (marksV a.1).toArray) (fun a => .pointer (some ⟨a.2.1, 0, none⟩))
          (fun a h' => Ext h8 h' ∧ Cel h' a.2.1 0 (.int .i64 a.2.2) ∧ a.2.2 ≤ 2 ∧ (∀ d, d ∈ a.1 → h'[d]? = some (.deferred (some [])) ∧ h8.size ≤ d) ∧ a.1.Nodup) (fun a => 2 - a.2.2)
          ([], h8.size, 0) ⟨rfl, rfl⟩ ⟨(by repeat' (first | (with_reducible exact Ext.refl _) | (with_reducible assumption) | (with_reducible refine push_ext ?_) | (with_reducible refine hset_ext ?_ ?_) | (with_reducible refine Ext.trans ?_ (by assumption)) | omega | (simp; done) | (simp; omega) | (refine Ext.size ?_) | (refine Nat.le_succ_of_le (Ext.size ?_)))), by simp [Cel_iff], by simp, by simp, by simp⟩ ?_
        rintro ⟨ds, T, turn⟩ h9 ⟨e9, cT, hturn, hds, hnd⟩
        dsimp only at cT hturn hds hnd
        have cr9 := cr.ext e9
        have s9 := e9.size
        by_cases ht2 : turn = 2
        · simp (disch := omega) [cT.get, ht2]
          refine Cknown_c fun h10 e10 => ?_
          have cr := cr9.ext e10
          simp (disch := omega) [cr.get, cr.free]
          refine RetD_all (fun d hd => ?_) hnd (fun h11 m11 => ?_)
          · have := hds d hd
            exact (get_hset (show d ≠ h.size + 1 + 1 by omega)).trans ((get_ext e10 (get_some_lt this.1)).trans this.1)
          · have hc11 := m11.cell (a := ⟨h.size + 1 + 1, 0, none⟩) (by have := e10.size; have := cr.lt; simp; omega) (fun hd => by have := hds _ hd; dsimp only at this; omega)
            simp (disch := omega) [cr.get] at hc11
            have E : Ext h h10 := (hE7.trans e9).trans e10
            simp (disch := omega) [hc11]
            exact H h11 (m11.ext_from (hset_ext E (by simp; omega)) (fun b hb hd => by have := hds _ hd; have := hE7.size; omega))
        · have hlt2 : (turn : Int) < 2 := by omega
          refine (⟨_, rfl⟩ : ∃ g, g = hset ((hset (hset ((h9.push (.cells #[.int .i64 0] 3)).push (.cells #[.int .i64 0] 3)) ⟨h9.size, 0, none⟩ (.int .i64 0)) ⟨h9.size + 1, 0, none⟩ (.int .i64 0)).push (.cells #[.bool false] 4)) ⟨h9.size + 2, 0, none⟩ (.bool false)).elim fun hb eb => ?_
          simp (disch := omega) [cT.get, hlt2]
          refine JoinN.mk (JoinN.mk ?_)
          simp (disch := omega) [← eb]
          have ebx : Ext h9 hb := by rw [eb]; exact (by repeat' (first | (with_reducible exact Ext.refl _) | (with_reducible assumption) | (with_reducible refine push_ext ?_) | (with_reducible refine hset_ext ?_ ?_) | (with_reducible refine Ext.trans ?_ (by assumption)) | omega | (simp; done) | (simp; omega) | (refine Ext.size ?_) | (refine Nat.le_succ_of_le (Ext.size ?_))))
          have bA : Cel hb h9.size 0 (.int .i64 0) := by rw [eb]; simp (disch := omega) [Cel_iff]
          have bT : Cel hb (h9.size + 1) 0 (.int .i64 0) := by rw [eb]; simp (disch := omega) [Cel_iff]
          have bS : Cel hb (h9.size + 2) 0 (.bool false) := by rw [eb]; simp (disch := omega) [Cel_iff]
          have zb : hb.size = h9.size + 3 := by simp [eb]
          clear eb
          refine JoinN_in1 (fun D h' => D = .tuple (marksV (hb.size :: ds)).toArray ∧ Ext h9 h' ∧ h'[hb.size]? = some (.deferred (some [])) ∧ ∃ (at' : Nat) (st : Bool), Cel h' h9.size 0 (.int .i64 at') ∧ Cel h' (h9.size + 2) 0 (.bool st) ∧ at' ≤ M ∧
            (st = false → ∀ j : Nat, at' ≤ j → j < M → cnt l (wd o) j = 0)) (fun kk hkk => ?_) (fun D h10 hD => ?_)
          · refine JoinN.mk ?_
            refine RangeC_none rfl fun oR oB oE oX oF Kp hoR hoB hround hN hR hX => ?_
            refine InvokeH_1_2 (by kernel_rfl) ?_
            refine (⟨_, rfl⟩ : ∃ g, g = (hb.push (.deferred (some []))).push oR).elim fun hc ec => ?_
            have zc : hc.size = hb.size + 2 := by simp [ec]
            have ebc : Ext hb hc := by rw [ec]; exact (by repeat' (first | (with_reducible exact Ext.refl _) | (with_reducible assumption) | (with_reducible refine push_ext ?_) | (with_reducible refine hset_ext ?_ ?_) | (with_reducible refine Ext.trans ?_ (by assumption)) | omega | (simp; done) | (simp; omega) | (refine Ext.size ?_) | (refine Nat.le_succ_of_le (Ext.size ?_))))
            have ecx : Ext h9 hc := ebx.trans ebc
            have rD : hc[hb.size]? = some (.deferred (some [])) := by rw [ec, get_push (by simp), get_pushed rfl]
            have rL : hc[hb.size + 1]? = some oR := by rw [ec, get_pushed (by simp)]
            rw [← ec]
            clear ec
            have bA := bA.ext ebc
            have bT := bT.ext ebc
            have bS := bS.ext ebc
            have e8c := e9.trans ecx
            have cb := cb.ext e8c
            have cr := cr.ext e8c
            have co := co.ext e8c
            have cl := cl.ext e8c
            have cM := cM.ext e8c
            have cTc := cT.ext ecx
            have lT := cT.lt
            have cA := hcell_ext e8c cA
            have cB := hcell_ext e8c cB
            have hB := hB.ext e8c
            have hBA := hBA.ext e8c
            have lA := hcell_lt cA
            have lB := hcell_lt cB
            refine CAll1_c (l := l) (o := o) (by omega)
              (fun i h' => Mod (fun x => x = h9.size ∨ x = h9.size + 1 ∨ x = h9.size + 2 ∨ x = hb.size + 1) hc h' ∧ h'[hb.size + 1]? = some oR ∧ ∃ at' told : Nat, Cel h' h9.size 0 (.int .i64 at') ∧ Cel h' (h9.size + 1) 0 (.int .i64 told) ∧ Cel h' (h9.size + 2) 0 (.bool false) ∧
                at' ≤ i ∧ told ≤ i ∧ i ≤ M ∧ ∀ j : Nat, at' ≤ j → j < i → cnt l (wd o) j = 0)
              (fun h' => Mod (fun x => x = h9.size ∨ x = h9.size + 1 ∨ x = h9.size + 2 ∨ x = hb.size + 1) hc h' ∧ h'[hb.size + 1]? = some (oX (.exit 6)) ∧ ∃ at' : Nat, Cel h' h9.size 0 (.int .i64 at') ∧ Cel h' (h9.size + 2) 0 (.bool true) ∧ at' ≤ M)
              (fun i h' hJ => ?_) (fun i h' h'' hJ e => ?_) (fun i h' hJ hw hi hz => ?_) (fun i h' hJ hw hi hnz K hK1 hK2 => ?_) ?_ (fun h' hJ => ?_) (fun h' hE => ?_)
            · have m := hJ.1
              have mc := m.ext_from ((e7.trans e8).trans e8c) (fun x hx hS => by omega)
              exact ⟨o4, q4, (m.cell (a := ⟨h3.size, 0, none⟩) lA (by dsimp only; omega)).trans cA, hBA.modX m (fun b hn hb _ => by have := hBA4' b hn hb; omega), (m.cell (a := ⟨h3.size + 1, 0, none⟩) lB (by dsimp only; omega)).trans cB⟩
            · obtain ⟨m, r, at', told, h1, h2, h3, h4⟩ := hJ
              exact ⟨m.extIn e, (get_ext e (get_some_lt r)).trans r, at', told, h1.ext e, h2.ext e, h3.ext e, h4⟩
            · obtain ⟨m, r, at', told, h1, h2, h3, h4, h5, h6, h7⟩ := hJ
              refine ⟨m, r, at', told, h1, h2, h3, by omega, by omega, by omega, fun j j1 j2 => ?_⟩
              by_cases e : j = i
              · rw [e]; exact hz
              · exact h7 j j1 (by omega)
            · obtain ⟨m, r, at', told, h1, h2, h3, h4, h5, h6, h7⟩ := hJ
              have m2 := m.putIn (c := hb.size + 1) (o := oB) (by omega)
              have rB := get_put (o := oB) (get_some_lt r)
              have a1 := h1.mod (Mod.put h' (hb.size + 1) oB) (by omega)
              have a2 := h2.mod (Mod.put h' (hb.size + 1) oB) (by omega)
              have a3 := h3.mod (Mod.put h' (hb.size + 1) oB) (by omega)
              refine hround _ _ _ rfl r ?_
              refine ⟨r, ?_⟩
              dsimp only
              generalize h'.setIfInBounds (hb.size + 1) oB = g1 at *
              refine loopA0 (fun (a : Nat) g' => Mod (fun x => x = h9.size ∨ x = h9.size + 1 ∨ x = h9.size + 2 ∨ x = hb.size + 1) hc g' ∧ g'[hb.size + 1]? = some oB ∧ Cel g' h9.size 0 (.int .i64 a) ∧ Cel g' (h9.size + 1) 0 (.int .i64 told) ∧ Cel g' (h9.size + 2) 0 (.bool false) ∧ a ≤ i ∧ ∀ j : Nat, a ≤ j → j < i → cnt l (wd o) j = 0) (fun a => i - a) at' ⟨m2, rB, a1, a2, a3, h4, h7⟩ ?_
              rintro a g2 ⟨mg, rg, xa, xt, xs, ha, hz⟩
              have cb := cb.mod mg (by omega)
              have co := co.mod mg (by omega)
              have cl := cl.mod mg (by omega)
              have cM := cM.mod mg (by omega)
              have cTc := cTc.mod mg (by omega)
              have hB := hB.modX mg (fun b hn hb _ => by have := hqB b hn hb; omega)
              have lg := get_some_lt rg
              by_cases hai : (a : Int) < i
              · simp (disch := omega) [xa.get, hai, cM.get, cb.get, co.get]
                refine RefAt_c hB (by omega) hw (many_le (by omega)) ?_
                rw [hz a (Nat.le_refl _) (by omega)]
                simp (disch := omega) [xa.get, xa.free]
                refine ⟨a + 1, ⟨(by repeat' (first | (with_reducible exact Mod.refl _ _) | (with_reducible assumption) | (with_reducible refine Mod.pushIn ?_) | (with_reducible refine Mod.setIn ?_ ?_) | (with_reducible refine Mod.putIn ?_ ?_) | (with_reducible refine Mod.extIn ?_ (by assumption)) | (exact Or.inr (by omega)) | (exact Or.inr (by simp; omega)) | (exact Or.inl (by simp)) | (exact Or.inl (by simp; omega)))), (by repeat' (first | (with_reducible assumption) | (with_reducible exact get_put (by simp; omega)) | (refine (get_hset' ?_).trans ?_) | (refine (get_push ?_).trans ?_) | (refine (get_putne ?_).trans ?_) | (refine (get_ext (by assumption) ?_).trans ?_) | omega | (dsimp only; omega) | (simp; done) | (simp; omega))), ?_, ?_, ?_, by omega, fun j j1 j2 => hz j (by omega) j2⟩, by omega⟩
                all_goals simp (disch := omega) [Cel_iff, xa.get, xa.free, xt.get, xt.free, xs.get, xs.free]
              · have hai' : a = i := by omega
                have hnz' : ¬ ((cnt l (wd o) i : Nat) : Int) = 0 := by omega
                simp (disch := omega) [xa.get, hai, cM.get, hai', hnz', cb.get, co.get]
                refine RefAt_c hB (by omega) hw (many_le (by omega)) ?_
                simp (disch := omega) [xa.get, xa.free, xt.get, xt.free, cTc.get]
                refine Split.mk (fun ht0 => ?_) (fun ht0 => ?_)
                · simp (disch := omega) [xt.get, xt.free, cl.get]
                  refine Split.mk (fun ht1 => ?_) (fun ht1 => ?_)
                  · simp (disch := omega) [xs.get, xs.free]
                    refine ⟨(by repeat' (first | (with_reducible assumption) | (with_reducible exact get_put (by simp; omega)) | (refine (get_hset' ?_).trans ?_) | (refine (get_push ?_).trans ?_) | (refine (get_putne ?_).trans ?_) | (refine (get_ext (by assumption) ?_).trans ?_) | omega | (dsimp only; omega) | (simp; done) | (simp; omega))), hK2 _ ⟨(by repeat' (first | (with_reducible exact Mod.refl _ _) | (with_reducible assumption) | (with_reducible refine Mod.pushIn ?_) | (with_reducible refine Mod.setIn ?_ ?_) | (with_reducible refine Mod.putIn ?_ ?_) | (with_reducible refine Mod.extIn ?_ (by assumption)) | (exact Or.inr (by omega)) | (exact Or.inr (by simp; omega)) | (exact Or.inl (by simp)) | (exact Or.inl (by simp; omega)))), (by repeat' (first | (with_reducible assumption) | (with_reducible exact get_put (by simp; omega)) | (refine (get_hset' ?_).trans ?_) | (refine (get_push ?_).trans ?_) | (refine (get_putne ?_).trans ?_) | (refine (get_ext (by assumption) ?_).trans ?_) | omega | (dsimp only; omega) | (simp; done) | (simp; omega))), i + 1, ?_, ?_, by omega⟩⟩
                    all_goals simp (disch := omega) [Cel_iff, hcell_put', hfrozen_put', hai', xs.get, xs.free, xa.get, xa.free]
                  · simp (disch := omega)
                    refine ⟨(by repeat' (first | (with_reducible assumption) | (with_reducible exact get_put (by simp; omega)) | (refine (get_hset' ?_).trans ?_) | (refine (get_push ?_).trans ?_) | (refine (get_putne ?_).trans ?_) | (refine (get_ext (by assumption) ?_).trans ?_) | omega | (dsimp only; omega) | (simp; done) | (simp; omega))), hK1 _ ⟨(by repeat' (first | (with_reducible exact Mod.refl _ _) | (with_reducible assumption) | (with_reducible refine Mod.pushIn ?_) | (with_reducible refine Mod.setIn ?_ ?_) | (with_reducible refine Mod.putIn ?_ ?_) | (with_reducible refine Mod.extIn ?_ (by assumption)) | (exact Or.inr (by omega)) | (exact Or.inr (by simp; omega)) | (exact Or.inl (by simp)) | (exact Or.inl (by simp; omega)))), (by repeat' (first | (with_reducible assumption) | (with_reducible exact get_put (by simp; omega)) | (refine (get_hset' ?_).trans ?_) | (refine (get_push ?_).trans ?_) | (refine (get_putne ?_).trans ?_) | (refine (get_ext (by assumption) ?_).trans ?_) | omega | (dsimp only; omega) | (simp; done) | (simp; omega))), i + 1, told + 1, ?_, ?_, ?_, by omega, by omega, by omega, fun j j1 j2 => by omega⟩⟩
                    all_goals simp (disch := omega) [Cel_iff, hcell_put', hfrozen_put', hai', xs.get, xs.free, xa.get, xa.free, xt.get, xt.free]
                · simp (disch := omega)
                  refine ⟨(by repeat' (first | (with_reducible assumption) | (with_reducible exact get_put (by simp; omega)) | (refine (get_hset' ?_).trans ?_) | (refine (get_push ?_).trans ?_) | (refine (get_putne ?_).trans ?_) | (refine (get_ext (by assumption) ?_).trans ?_) | omega | (dsimp only; omega) | (simp; done) | (simp; omega))), hK1 _ ⟨(by repeat' (first | (with_reducible exact Mod.refl _ _) | (with_reducible assumption) | (with_reducible refine Mod.pushIn ?_) | (with_reducible refine Mod.setIn ?_ ?_) | (with_reducible refine Mod.putIn ?_ ?_) | (with_reducible refine Mod.extIn ?_ (by assumption)) | (exact Or.inr (by omega)) | (exact Or.inr (by simp; omega)) | (exact Or.inl (by simp)) | (exact Or.inl (by simp; omega)))), (by repeat' (first | (with_reducible assumption) | (with_reducible exact get_put (by simp; omega)) | (refine (get_hset' ?_).trans ?_) | (refine (get_push ?_).trans ?_) | (refine (get_putne ?_).trans ?_) | (refine (get_ext (by assumption) ?_).trans ?_) | omega | (dsimp only; omega) | (simp; done) | (simp; omega))), i + 1, told + 1, ?_, ?_, ?_, by omega, by omega, by omega, fun j j1 j2 => by omega⟩⟩
                  all_goals simp (disch := omega) [Cel_iff, hcell_put', hfrozen_put', hai', xs.get, xs.free, xa.get, xa.free, xt.get, xt.free]
            · exact ⟨Mod.refl _ _, rL, 0, 0, bA, bT, bS, by omega, by omega, by omega, fun j h1 h2 => by omega⟩
            · obtain ⟨m, r, at', told, h1, h2, h3, h4, h5, h6, h7⟩ := hJ
              have sm := m.size
              refine hN _ _ r (hkk _ _ ⟨consD_marks _ _, (m.putIn (o := oE) (.inl (.inr (.inr (.inr rfl))))).ext_from ecx (fun x hx hS => by omega), ?_, at', false, h1.mod (Mod.put _ _ _) (by omega), h3.mod (Mod.put _ _ _) (by omega), by omega, fun _ j j1 j2 => h7 j j1 (by omega)⟩)
              exact (get_putne (show hb.size ≠ hb.size + 1 by omega)).trans ((m.block hb.size (by omega) (by omega)).trans rD)
            · obtain ⟨m, r, at', h1, h2, h3⟩ := hE
              have sm := m.size
              refine hX _ _ 6 r (hkk _ _ ⟨consD_marks _ _, (m.putIn (.inl (.inr (.inr (.inr rfl))))).ext_from ecx (fun x hx hS => by omega), ?_, at', true, h1.mod (Mod.put _ _ _) (by omega), h2.mod (Mod.put _ _ _) (by omega), h3, fun e => by cases e⟩)
              exact (get_putne (show hb.size ≠ hb.size + 1 by omega)).trans ((m.block hb.size (by omega) (by omega)).trans rD)
          · have e10 : Ext h9 h10 := hD.2.1
            have rd10 := hD.2.2.1
            have E := e9.trans e10
            have cT10 := cT.ext e10
            refine hD.2.2.2.elim fun at0 hx => hx.elim fun st hx => ?_
            refine loopA0 (fun (a : Nat) g' => Mod (fun x => x = h9.size) h10 g' ∧ Cel g' h9.size 0 (.int .i64 a) ∧ a ≤ M ∧ (st = false → ∀ j : Nat, a ≤ j → j < M → cnt l (wd o) j = 0)) (fun a => M - a) at0 ⟨Mod.refl _ _, hx.1, hx.2.2.1, hx.2.2.2⟩ ?_
            rintro a h11 ⟨m11, xa, ha, hz⟩
            have e8 : Ext h8 h11 := m11.ext_from E (fun x hx he => by omega)
            have cb := cb.ext e8
            have co := co.ext e8
            have cM := cM.ext e8
            have hB := hB.ext e8
            have ltT := cT.lt
            have z10 := e10.size
            have z11 := m11.size
            have st11 : Cel h11 (h9.size + 2) 0 (.bool st) := hx.2.1.mod m11 (by omega)
            have cT11 := cT10.mod m11 (by omega)
            have rd11 := (m11.block _ (get_some_lt rd10) (show hb.size ≠ h9.size by omega)).trans rd10
            have lt9 : ∀ d, d ∈ ds → d < h9.size := fun d hd => get_some_lt (hds d hd).1
            have ds11 : ∀ d, d ∈ ds → h11[d]? = some (.deferred (some [])) := fun d hd => by
              have l9 := lt9 d hd
              exact (m11.block d (by omega) (show d ≠ h9.size by omega)).trans ((get_ext e10 l9).trans (hds d hd).1)
            have fin : ∀ d, d ∈ hb.size :: ds → (hset (hset (Array.push h11 (.cells #[.int .i64 0] 3)) ⟨h11.size, 0, none⟩ (.int .i64 turn)) ⟨h11.size, 0, none⟩ (.int .i64 (turn + 1)))[d]? = some (.deferred (some [])) ∧ h8.size ≤ d := fun d hd => by
              have lb := get_some_lt rd11
              rcases List.mem_cons.1 hd with e | hd
              · rw [e]
                exact ⟨(get_hset (show hb.size ≠ h11.size by omega)).trans ((get_hset (show hb.size ≠ h11.size by omega)).trans ((get_push (by omega)).trans rd11)), by omega⟩
              · have := lt9 d hd
                exact ⟨(get_hset (show d ≠ h11.size by omega)).trans ((get_hset (show d ≠ h11.size by omega)).trans ((get_push (by omega)).trans (ds11 d hd))), (hds d hd).2⟩
            have fin2 : (hb.size :: ds).Nodup := List.nodup_cons.2 ⟨fun hd => by have := lt9 _ hd; omega, hnd⟩
            by_cases hgo : (a : Int) < M ∧ st = false
            · have hw : wd o ≠ 0 := by intro e; rw [hM] at hgo; unfold many at hgo; rw [e] at hgo; simp at hgo; omega
              simp (disch := omega) [xa.get, cM.get, hgo.1, st11.get, hgo.2, cb.get, co.get]
              refine RefAt_c hB (by omega) hw (many_le (by omega)) ?_
              rw [hz hgo.2 a (Nat.le_refl _) (by omega)]
              simp (disch := omega) [xa.get, xa.free]
              refine ⟨a + 1, ⟨(by repeat' (first | (with_reducible exact Mod.refl _ _) | (with_reducible assumption) | (with_reducible refine Mod.pushIn ?_) | (with_reducible refine Mod.setIn ?_ ?_) | (with_reducible refine Mod.putIn ?_ ?_) | (with_reducible refine Mod.extIn ?_ (by assumption)) | (exact Or.inr (by omega)) | (exact Or.inr (by simp; omega)) | (exact Or.inl (by simp)) | (exact Or.inl (by simp; omega)))), ?_, by omega, fun hs j j1 j2 => hz hs j (by omega) j2⟩, by omega⟩
              simp (disch := omega) [Cel_iff, xa.get, xa.free]
            · by_cases hlt : (a : Int) < M
              · have hst : st = true := by cases st with | true => rfl | false => exact absurd ⟨hlt, rfl⟩ hgo
                simp (disch := omega) [xa.get, cM.get, hlt, st11.get, hst, cT11.get]
                exact ⟨hb.size :: ds, hD.1, turn + 1, ⟨(by repeat' (first | (with_reducible exact Ext.refl _) | (with_reducible assumption) | (with_reducible refine push_ext ?_) | (with_reducible refine hset_ext ?_ ?_) | (with_reducible refine Ext.trans ?_ (by assumption)) | omega | (simp; done) | (simp; omega) | (refine Ext.size ?_) | (refine Nat.le_succ_of_le (Ext.size ?_)))), by simp [Cel_iff], by omega, fin, fin2⟩, by omega⟩
              · simp (disch := omega) [xa.get, cM.get, hlt, cT11.get]
                exact ⟨hb.size :: ds, hD.1, turn + 1, ⟨(by repeat' (first | (with_reducible exact Ext.refl _) | (with_reducible assumption) | (with_reducible refine push_ext ?_) | (with_reducible refine hset_ext ?_ ?_) | (with_reducible refine Ext.trans ?_ (by assumption)) | omega | (simp; done) | (simp; omega) | (refine Ext.size ?_) | (refine Nat.le_succ_of_le (Ext.size ?_)))), by simp [Cel_iff], by omega, fin, fin2⟩, by omega⟩
    · refine hL.elim fun L hL => ?_
      have hne : L.map byteV ≠ [] := fun e => by have := congrArg List.length e; simp at this; rw [this] at hL; simp at hL; omega
      refine (hL.2.nonnil hne).elim fun B hx => hx.elim fun n3 hx => hx.elim fun c3 hx => ?_
      have hso : o3 = some ⟨B, 0, none⟩ := by have := hx.1; rw [hv3] at this; simp at this; exact this.1
      have hvB : v3 = .slice (some ⟨B, 0, none⟩) l.length q3 := by rw [hv3, hso]
      have hO := hL.2
      rw [hvB] at hO
      have hkL : k < L.length := by omega
      have h1 := hO.set1 (x := L[k] + 1) (k := k) (by omega)
      simp (disch := omega) [hvB, h1.1, h1.2.1, Hp_incB, stB]
      refine ⟨k + 1, by simp, ⟨by omega, ?_, L.set k (L[k] + 1), by simpa using hL.1, ?_⟩, by omega⟩
      · rw [← hvB]
        exact hM6.setIn (a := elt ⟨B, 0, none⟩ k) (.inl (by rw [hvB]; simp [blkV]))
      · simpa using h1.2.2
end Go.Proofs.Ytmppolccfjfoaaa
namespace Go.Proofs.Ytmppolccfjfoaaa.countsAll
open Go.ChangeShapes Go.WideShapes Go.ChangeAt Go.RowKit Go.Joins Go.Vc

theorem own : ownKnob Try.prog.godebug = none := by kernel_rfl
theorem laidOut : laidOutB Try.prog = true := by kernel_rfl

set_option maxRecDepth 100000 in
set_option maxHeartbeats 1000000 in
theorem lifted (os : Os) (started : os.Started) (H : Type) (enc : TypeId × Value → H) :
    ReturnsInHanded {} Try.checked os 11 .any (Rows.countsAllSpec.pre6 enc Try.prog Try.f11 Rows.countsAllRow.domain false) (Rows.countsAllSpec.post enc Try.prog Try.f11 false true false false) := by
  refine returnsInHanded_of_change (C := Try.checked) own started (by kernel_rfl) Try.func11
    (ChangeSpec.witness6 (enc := enc) (C := Try.checked) false ⟨#[], #[.slice none 0 0, .agg #[.int .i64 0, .int .i64 0, .int .i64 0]], []⟩ 8 (by kernel_rfl) (by kernel_rfl) (by kernel_rfl) (by kernel_rfl)) ?_
  intro W base args ds gs before hval0 hW hcnd _
  have hval : ∀ (j : Nat) t v, Try.f11.params[j]? = some t → args[j]? = some v → Value.okWide Try.prog W .any base t v := hval0
  have hW' := hW
  obtain ⟨p, q, hA0, hV, rfl, hfz, hnd⟩ := hW
  have hA : DataW.TrodAll enc Try.prog W 0 (fun _ => true) true Try.f11.params.toList args.toList ds p := hA0
  rw [Try.params11] at hA hval
  obtain ⟨v0, vs0, d0, ds0, p0, q0, hargs, rfl, rfl, h0, r0⟩ := trodAll_cons hA
  obtain ⟨v1, vs1, d1, ds1, p1, q1, rfl, rfl, rfl, h1, r1⟩ := trodAll_cons r0
  obtain ⟨rfl, rfl, rfl⟩ := trodAll_nil r1
  obtain rfl : args = #[v0, v1] := by cases args; simp_all
  obtain ⟨l, hB, _⟩ := open_bytes (e := 5) (by kernel_rfl) (by kernel_rfl) (by kernel_rfl) (hval 0 39 v0 rfl rfl) h0
  obtain ⟨cs, rfl, hl, hL⟩ := Laid.topFlds (L := [(3, 0, 1), (3, 1, 1), (3, 2, 1)]) (n := 3) (by kernel_rfl) (by kernel_rfl) (hval 1 93 v1 rfl rfl) h1
  obtain ⟨c0, c1, c2, rfl⟩ := len3 hl
  obtain ⟨o, ho, -⟩ := (hL 0 _ _ _ rfl).int (k := .i64) (by kernel_rfl)
  obtain ⟨t, ht, -⟩ := (hL 1 _ _ _ rfl).int (k := .i64) (by kernel_rfl)
  obtain ⟨n, hn, hn1, hn2⟩ := (hL 2 _ _ _ rfl).int (k := .i64) (by kernel_rfl)
  obtain rfl : c0 = .int .i64 o := by simpa using ho
  obtain rfl : c1 = .int .i64 t := by simpa using ht
  obtain rfl : c2 = .int .i64 n := by simpa using hn
  simp [IntKind.min, IntKind.max, IntKind.signed, IntKind.bits] at hn1 hn2
  refine ((CountsAll_c (h := W.heap) hB (by omega) (K := fun v h' => v = .bool true ∧ Ext W.heap h') (fun h' e => ⟨rfl, e⟩)).out W rfl).mono fun e W' ⟨v, he, hs, hv, hx⟩ => ?_
  exact ⟨v, he, hv ▸ law_post laidOut (by kernel_rfl) rfl (tb := 4) (by kernel_rfl) (by kernel_rfl) hW' (fun hg => by rw [hg]; rfl) (below_of hs hx)⟩

theorem proved : Rows.CountsAllSaid :=
  OpenClaim.holds_of_wide 11 Try.f11 rfl rfl rfl rfl rfl rfl rfl ⟨rfl, rfl, rfl, rfl, rfl⟩ rfl rfl rfl rfl rfl (by kernel_rfl) Try.func11 (by kernel_rfl)
    (of_decide_eq_true (by kernel_rfl)) (by unfold Func.isWrapper; first | (rw [if_pos (by decide +kernel)]; kernel_rfl) | (rw [if_neg (by decide +kernel)]; exact ⟨rfl, rfl⟩))
    (fun os started H enc _ => lifted os started H enc)
end Go.Proofs.Ytmppolccfjfoaaa.countsAll
