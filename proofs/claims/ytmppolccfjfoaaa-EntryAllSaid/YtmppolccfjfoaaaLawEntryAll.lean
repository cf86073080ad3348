/- What is proved: the law palimpsestlaw09.EntryAll returns true for every input, and its arguments read as they did. No conditions. -/
import Derived.Test.YtmppolccfjfoaaaRows
import Derived.Test.YtmppolccfjfoaaaOpen
import Derived.Test.YtmppolccfjfoaaaEntry7
set_option linter.unusedSimpArgs false
set_option linter.unusedVariables false
namespace Go.Proofs.Ytmppolccfjfoaaa
open Go.Vc
variable {K : Value → Heap → Prop} {h : Heap}

set_option maxHeartbeats 8000000 in
theorem EntryAll_c {v : Value} {l : List UInt8} {b leave : Int} (hB : Bytes h v l) (H : ∀ h', Ext h h' → K (.bool true) h') :
    CallsH Try.prog 8 #[v, .int .i64 b, .int .i64 leave] h K ⟨⟩ := by
  obtain ⟨h0, e0⟩ : ∃ h0, h0 = (((h.push (.cells #[v] 39)).push (.cells #[.int .i64 b] 3)).push (.cells #[.int .i64 leave] 3)).push (.cells #[.bool false] 4) := ⟨_, rfl⟩
  have hE0 : Ext h h0 := by rw [e0]; exact (by repeat' (first | (with_reducible exact Ext.refl _) | (with_reducible assumption) | (with_reducible refine push_ext ?_) | (with_reducible refine hset_ext ?_ ?_) | (with_reducible refine Ext.trans ?_ (by assumption)) | omega | (simp; done) | (simp; omega) | (refine Ext.size ?_) | (refine Nat.le_succ_of_le (Ext.size ?_))))
  have c0 : hcell h0 ⟨h.size, 0, none⟩ = some v := by simp (disch := omega) [e0]
  have c1 : hcell h0 ⟨h.size + 1, 0, none⟩ = some (.int .i64 b) := by simp [e0]
  have c2 : hcell h0 ⟨h.size + 2, 0, none⟩ = some (.int .i64 leave) := by simp [e0]
  have c3 : hcell h0 ⟨h.size + 3, 0, none⟩ = some (.bool false) := by simp [e0]
  have f3 : hfrozen h0 ⟨h.size + 3, 0, none⟩ = false := by simp [e0]
  have hz0 : h0.size = h.size + 4 := by simp [e0]
  replace hB := hB.ext hE0
  have hs : h.size + 4 = h0.size := hz0.symm
  obtain ⟨o, q0, rfl⟩ := hB.form
  refine n8_calls ?_
  unfold n8
  by_cases hl : (10000 : Int) < l.length
  · simp (disch := omega) [hl, ← e0, c0, c1, c2, c3, f3]
    refine Known_c fun h1 e1 => ?_
    have ce1 := ext_cell e1 rfl; have fe1 := ext_frz e1 rfl; have se1 := (e1).size; (try simp only [Array.size_push, hset_size] at ce1); (try simp only [Array.size_push, hset_size] at fe1); (try simp only [Array.size_push, hset_size] at se1)
    simp (disch := omega) [ce1, fe1, c3, f3]
    refine RetD_nil ?_
    simp (disch := omega) [ce1, fe1, c3, f3]
    exact H _ (hset_ext (hE0.trans e1) (by simp; omega))
  · simp (disch := omega) [hl, ← e0, c0, c1, c2, c3, f3]
    clear e0
    refine EFirst_c hB (by omega) (fun h1 e1 => ?_)
    have ce1 := ext_cell e1 rfl; have fe1 := ext_frz e1 rfl; have se1 := (e1).size; (try simp only [Array.size_push, hset_size] at ce1); (try simp only [Array.size_push, hset_size] at fe1); (try simp only [Array.size_push, hset_size] at se1)
    simp (disch := omega) [ce1, fe1, c0, c1, c2, c3, f3]
    refine ERefFirst_c (hB.ext e1) (by omega) (fun h2 e2 => ?_)
    have e02 := e1.trans e2
    have ce02 := ext_cell e02 rfl; have fe02 := ext_frz e02 rfl; have se02 := (e02).size; (try simp only [Array.size_push, hset_size] at ce02); (try simp only [Array.size_push, hset_size] at fe02); (try simp only [Array.size_push, hset_size] at se02)
    refine (⟨_, rfl⟩ : ∃ g, g = hset (h2.push (.cells #[.int .i64 0] 3)) ⟨h2.size, 0, none⟩ (.int .i64 (firstR l b).1)).elim fun g eg => ?_
    simp (disch := omega) [ce02, fe02, c0, c1, c2, c3, f3, ← eg]
    have eg0 : Ext h0 g := by rw [eg]; exact (by repeat' (first | (with_reducible exact Ext.refl _) | (with_reducible assumption) | (with_reducible refine push_ext ?_) | (with_reducible refine hset_ext ?_ ?_) | (with_reducible refine Ext.trans ?_ (by assumption)) | omega | (simp; done) | (simp; omega) | (refine Ext.size ?_) | (refine Nat.le_succ_of_le (Ext.size ?_))))
    have cg : hcell g ⟨h2.size, 0, none⟩ = some (.int .i64 (firstR l b).1) := by simp (disch := omega) [eg]
    have hzg : g.size = h2.size + 1 := by simp [eg]
    clear eg
    have ceg0 := ext_cell eg0 rfl; have feg0 := ext_frz eg0 rfl; have seg0 := (eg0).size; (try simp only [Array.size_push, hset_size] at ceg0); (try simp only [Array.size_push, hset_size] at feg0); (try simp only [Array.size_push, hset_size] at seg0)
    simp (disch := omega) [ceg0, c0]
    refine Hp_appB (e := 5) (l := []) (by kernel_rfl) (by kernel_rfl) .nil (hB.ext eg0) (by simp; omega) fun v3 h3 hO3 hM3 hF3 _ => ?_
    have e3 : Ext g h3 := hM3.ext (fun b _ e => by cases e)
    have e03 := eg0.trans e3
    have hlt3 : ∀ b, blkV v3 = some b → g.size ≤ b := fun b hb => (hF3 b hb).resolve_left (by rintro ⟨⟩)
    clear hM3 hF3
    have ce03 := ext_cell e03 rfl; have fe03 := ext_frz e03 rfl; have se03 := (e03).size; (try simp only [Array.size_push, hset_size] at ce03); (try simp only [Array.size_push, hset_size] at fe03); (try simp only [Array.size_push, hset_size] at se03)
    simp (disch := omega) [ce03, fe03, c0, c1, c2, c3, f3]
    refine EAll_c hO3.bytes (by simp; omega) fun h4 o4 q4 e4 hz4 cA hBA cB hFA => ?_
    simp only [List.nil_append] at hO3 hBA cA
    have hE4 := e3.trans e4
    have chE4 := ext_cell hE4 rfl; have fhE4 := ext_frz hE4 rfl; have shE4 := (hE4).size; (try simp only [Array.size_push, hset_size] at chE4); (try simp only [Array.size_push, hset_size] at fhE4); (try simp only [Array.size_push, hset_size] at shE4)
    have e04 := eg0.trans hE4
    have ce04 := ext_cell e04 rfl; have fe04 := ext_frz e04 rfl; have se04 := (e04).size; (try simp only [Array.size_push, hset_size] at ce04); (try simp only [Array.size_push, hset_size] at fe04); (try simp only [Array.size_push, hset_size] at se04)
    have hB3 : v3 = v3 := rfl
    refine (hO3.bytes.form).elim fun o3 hx => hx.elim fun q3 hv3 => ?_
    simp (disch := omega) [chE4, cg, hv3]
    have hlt4 : ∀ b, blkV v3 = some b → b < h3.size := fun b hb => hO3.lt hb
    refine loopA1 (fun k : Nat => .int .i64 k) (fun k h' => k ≤ l.length ∧ Mod (fun x => blkV v3 = some x) h4 h' ∧ ∃ L : List UInt8, L.length = l.length ∧ OwnS 1 h' v3 (L.map byteV)) (fun k => l.length - k) 0 rfl ⟨by omega, Mod.refl _ _, l, rfl, hO3.ext e4⟩ ?_
    rintro k h5 ⟨hk, hM5, hL⟩
    by_cases hkn : k = l.length
    · clear hL
      have hm5 : ∀ (b i : Nat), b < h4.size → ¬ blkV v3 = some b → hcell h5 ⟨b, i, none⟩ = hcell h4 ⟨b, i, none⟩ := fun b i hb hn => hM5.cell hb hn
      have hg0 : ∀ b, b < g.size → ¬ blkV v3 = some b := fun b hb e => by have := hlt3 b e; omega
      have hg3 : ∀ b, h3.size ≤ b → ¬ blkV v3 = some b := fun b hb e => by have := hlt4 b e; omega
      have s3 := e3.size
      have s4 := hE4.size
      have d0 : hcell h5 ⟨h.size, 0, none⟩ = some (.slice o l.length q0) := by rw [hm5 _ _ (by omega) (hg0 _ (by omega)), ce04 _ _ _ (by omega), c0]
      have d1 : hcell h5 ⟨h.size + 1, 0, none⟩ = some (.int .i64 b) := by rw [hm5 _ _ (by omega) (hg0 _ (by omega)), ce04 _ _ _ (by omega), c1]
      have d2 : hcell h5 ⟨h.size + 2, 0, none⟩ = some (.int .i64 leave) := by rw [hm5 _ _ (by omega) (hg0 _ (by omega)), ce04 _ _ _ (by omega), c2]
      have d3 : hcell h5 ⟨h.size + 3, 0, none⟩ = some (.bool false) := by rw [hm5 _ _ (by omega) (hg0 _ (by omega)), ce04 _ _ _ (by omega), c3]
      have g3 : hfrozen h5 ⟨h.size + 3, 0, none⟩ = false := by rw [hM5.frozen (a := ⟨h.size + 3, 0, none⟩) (show h.size + 3 < h4.size by omega) (hg0 _ (show h.size + 3 < g.size by omega)), fe04 _ _ _ (by omega), f3]
      have dk : hcell h5 ⟨h2.size, 0, none⟩ = some (.int .i64 (firstR l b).1) := by rw [hm5 _ _ (by omega) (hg0 _ (by omega)), chE4 _ _ _ (by omega), cg]
      have dA : hcell h5 ⟨h3.size, 0, none⟩ = some (.slice o4 l.length q4) := by rw [hm5 _ _ (by omega) (hg3 _ (by omega)), cA]
      have dB : hcell h5 ⟨h3.size + 1, 0, none⟩ = some (.int .i64 b) := by rw [hm5 _ _ (by omega) (hg3 _ (by omega)), cB]
      have hBm : Bytes h5 (.slice o l.length q0) l := (hB.modIn (S := fun _ => False) (Mod.of_ext eg0) (fun _ _ _ e => e)).modIn (S := fun x => blkV v3 = some x) ((Mod.of_ext hE4).trans hM5 (fun x _ e => e)) (fun b hb _ => hg0 b hb)
      have hB5 : Bytes h5 (.slice o l.length q0) l := hBm
      have hA5 : Bytes h5 (.slice o4 l.length q4) l := hBA.mod hM5 (fun b hb => hg3 b (by cases o4 with | none => cases hb | some a => cases hb; exact hFA a rfl))
      have E5 : Ext h0 h5 := hM5.ext_from e04 (fun b hb e => by have := hlt3 b e; omega)
      have s5 := hM5.size
      clear ce1 fe1 ce02 fe02 ceg0 feg0 ce03 fe03 chE4 fhE4 ce04 fe04 hm5 hg0 hg3
      simp (disch := omega) [hkn, hv3]
      refine JoinN.mk ?_
      simp (disch := omega)
      refine JoinN.mk ?_
      refine loopA2 (fun a : List Nat × Nat × Nat => .tuple (marksV a.1).toArray) (fun a => .pointer (some ⟨a.2.1, 0, none⟩))
        (fun a h' => Ext h5 h' ∧ hcell h' ⟨a.2.1, 0, none⟩ = some (.int .i64 a.2.2) ∧ hfrozen h' ⟨a.2.1, 0, none⟩ = false ∧ a.2.2 ≤ 2 ∧ (∀ d, d ∈ a.1 → h'[d]? = some (.deferred (some [])) ∧ h5.size ≤ d) ∧ a.1.Nodup) (fun a => 2 - a.2.2)
        ([], h5.size, 0) ⟨rfl, rfl⟩ ⟨(by repeat' (first | (with_reducible exact Ext.refl _) | (with_reducible assumption) | (with_reducible refine push_ext ?_) | (with_reducible refine hset_ext ?_ ?_) | (with_reducible refine Ext.trans ?_ (by assumption)) | omega | (simp; done) | (simp; omega) | (refine Ext.size ?_) | (refine Nat.le_succ_of_le (Ext.size ?_)))), by simp, by simp, by simp, by simp, by simp⟩ ?_
      rintro ⟨ds, T, turn⟩ h6 ⟨e6, cT, fT, hturn, hds, hnd⟩
      dsimp only at cT fT hturn hds hnd
      have ce6 := ext_cell e6 rfl; have fe6 := ext_frz e6 rfl; have se6 := (e6).size; (try simp only [Array.size_push, hset_size] at ce6); (try simp only [Array.size_push, hset_size] at fe6); (try simp only [Array.size_push, hset_size] at se6)
      by_cases ht2 : turn = 2
      · simp (disch := omega) [cT, ht2]
        refine Known_c fun h7 e7 => ?_
        have ce7 := ext_cell e7 rfl; have fe7 := ext_frz e7 rfl; have se7 := (e7).size; (try simp only [Array.size_push, hset_size] at ce7); (try simp only [Array.size_push, hset_size] at fe7); (try simp only [Array.size_push, hset_size] at se7)
        simp (disch := omega) [ce7, fe7, ce6, fe6, d3, g3]
        refine RetD_all (fun d hd => ?_) hnd (fun h8 m8 => ?_)
        · have := hds d hd
          have s6 := e6.size
          exact (get_hset (show d ≠ h.size + 1 + 1 + 1 by omega)).trans ((get_ext e7 (get_some_lt this.1)).trans this.1)
        · have hc8 := m8.cell (a := ⟨h.size + 1 + 1 + 1, 0, none⟩) (by have := e7.size; have := e6.size; simp; omega) (fun hd => by have := hds _ hd; dsimp only at this; omega)
          simp (disch := omega) [ce7, ce6, d3] at hc8
          have E7 : Ext h h7 := ((hE0.trans E5).trans e6).trans e7
          simp (disch := omega) [hc8]
          exact H h8 (m8.ext_from (hset_ext E7 (by simp; omega)) (fun b hb hd => by have := hds _ hd; omega))
      · have hlt2 : (turn : Int) < 2 := by omega
        refine (⟨_, rfl⟩ : ∃ g, g = hset ((hset (hset ((h6.push (.cells #[.int .i64 0] 3)).push (.cells #[.int .i64 0] 3)) ⟨h6.size, 0, none⟩ (.int .i64 0)) ⟨h6.size + 1, 0, none⟩ (.int .i64 0)).push (.cells #[.bool false] 4)) ⟨h6.size + 2, 0, none⟩ (.bool false)).elim fun hb eb => ?_
        simp (disch := omega) [cT, hlt2]
        refine JoinN.mk (JoinN.mk ?_)
        simp (disch := omega) [← eb]
        have ebx : Ext h6 hb := by rw [eb]; exact (by repeat' (first | (with_reducible exact Ext.refl _) | (with_reducible assumption) | (with_reducible refine push_ext ?_) | (with_reducible refine hset_ext ?_ ?_) | (with_reducible refine Ext.trans ?_ (by assumption)) | omega | (simp; done) | (simp; omega) | (refine Ext.size ?_) | (refine Nat.le_succ_of_le (Ext.size ?_))))
        have bA : hcell hb ⟨h6.size, 0, none⟩ = some (.int .i64 0) := by simp (disch := omega) [eb]
        have bT : hcell hb ⟨h6.size + 1, 0, none⟩ = some (.int .i64 0) := by simp (disch := omega) [eb]
        have bS : hcell hb ⟨h6.size + 2, 0, none⟩ = some (.bool false) := by simp (disch := omega) [eb]
        have fA : hfrozen hb ⟨h6.size, 0, none⟩ = false := by simp (disch := omega) [eb]
        have fT2 : hfrozen hb ⟨h6.size + 1, 0, none⟩ = false := by simp (disch := omega) [eb]
        have fS : hfrozen hb ⟨h6.size + 2, 0, none⟩ = false := by simp (disch := omega) [eb]
        have zb : hb.size = h6.size + 3 := by simp [eb]
        clear eb
        have s6 := e6.size
        refine JoinN_in1 (fun D h' => D = .tuple (marksV (hb.size :: ds)).toArray ∧ Ext h6 h' ∧ h'[hb.size]? = some (.deferred (some [])) ∧ ∃ (at' : Nat) (st : Bool), hcell h' ⟨h6.size, 0, none⟩ = some (.int .i64 at') ∧ hcell h' ⟨h6.size + 2, 0, none⟩ = some (.bool st) ∧
          hfrozen h' ⟨h6.size, 0, none⟩ = false ∧ (st = false → at' ≤ (firstR l b).1 ∧ ∀ j : Nat, at' ≤ j → j < (firstR l b).1 → getE l j b = ((0, 0, 0), 0))) (fun kk hkk => ?_) (fun D h7 hD => ?_)
        · refine JoinN.mk ?_
          refine RangeC_none rfl fun oR oB oE oX oF Kp hoR hoB hround hN hR hX => ?_
          refine InvokeH_1_2 (by kernel_rfl) ?_
          refine (⟨_, rfl⟩ : ∃ g, g = (hb.push (.deferred (some []))).push oR).elim fun hc ec => ?_
          have zc : hc.size = hb.size + 2 := by simp [ec]
          have ecx : Ext h6 hc := by rw [ec]; exact (by repeat' (first | (with_reducible exact Ext.refl _) | (with_reducible assumption) | (with_reducible refine push_ext ?_) | (with_reducible refine hset_ext ?_ ?_) | (with_reducible refine Ext.trans ?_ (by assumption)) | omega | (simp; done) | (simp; omega) | (refine Ext.size ?_) | (refine Nat.le_succ_of_le (Ext.size ?_))))
          have rD : hc[hb.size]? = some (.deferred (some [])) := by rw [ec, get_push (by simp), get_pushed rfl]
          have rL : hc[hb.size + 1]? = some oR := by rw [ec, get_pushed (by simp)]
          have xA : hcell hc ⟨h6.size, 0, none⟩ = some (.int .i64 0) := by rw [ec, hcell_push _ _ (by simp; omega), hcell_push _ _ (by simp; omega), bA]
          have xT : hcell hc ⟨h6.size + 1, 0, none⟩ = some (.int .i64 0) := by rw [ec, hcell_push _ _ (by simp; omega), hcell_push _ _ (by simp; omega), bT]
          have xS : hcell hc ⟨h6.size + 2, 0, none⟩ = some (.bool false) := by rw [ec, hcell_push _ _ (by simp; omega), hcell_push _ _ (by simp; omega), bS]
          have yA : hfrozen hc ⟨h6.size, 0, none⟩ = false := by rw [ec, hfrozen_push _ _ (by simp; omega), hfrozen_push _ _ (by simp; omega), fA]
          have yT : hfrozen hc ⟨h6.size + 1, 0, none⟩ = false := by rw [ec, hfrozen_push _ _ (by simp; omega), hfrozen_push _ _ (by simp; omega), fT2]
          have yS : hfrozen hc ⟨h6.size + 2, 0, none⟩ = false := by rw [ec, hfrozen_push _ _ (by simp; omega), hfrozen_push _ _ (by simp; omega), fS]
          refine EAll1_c (l := l) (b := b) (by omega)
            (fun i h' => Mod (fun x => x = h6.size ∨ x = h6.size + 1 ∨ x = h6.size + 2 ∨ x = hb.size + 1) hc h' ∧ h'[hb.size + 1]? = some oR ∧ ∃ at' told : Nat, hcell h' ⟨h6.size, 0, none⟩ = some (.int .i64 at') ∧ hcell h' ⟨h6.size + 1, 0, none⟩ = some (.int .i64 told) ∧ hcell h' ⟨h6.size + 2, 0, none⟩ = some (.bool false) ∧
              hfrozen h' ⟨h6.size, 0, none⟩ = false ∧ hfrozen h' ⟨h6.size + 1, 0, none⟩ = false ∧ hfrozen h' ⟨h6.size + 2, 0, none⟩ = false ∧ at' ≤ i ∧ told ≤ i ∧ (∀ j : Nat, at' ≤ j → j < i → getE l j b = ((0, 0, 0), 0)) ∧ (∀ j, j < i → bad l b j = false))
            (fun h' => Mod (fun x => x = h6.size ∨ x = h6.size + 1 ∨ x = h6.size + 2 ∨ x = hb.size + 1) hc h' ∧ h'[hb.size + 1]? = some (oX (.exit 4)) ∧ ∃ at' : Nat, hcell h' ⟨h6.size, 0, none⟩ = some (.int .i64 at') ∧ hcell h' ⟨h6.size + 2, 0, none⟩ = some (.bool true) ∧ hfrozen h' ⟨h6.size, 0, none⟩ = false)
            (fun i h' hJ => ?_) (fun i h' h'' hJ e => ?_) (fun i h' hJ hi hz => ?_) (fun i h' k p n hJ hi hG hnz K hK1 hK2 => ?_) ?_ (fun i h' hJ hend => ?_) (fun h' hE => ?_)
          · have m5 : Ext h5 h' := hJ.1.ext_from (e6.trans ecx) (fun x hx hS => by omega)
            have s5 : h4.size ≤ h5.size := s5
            exact ⟨o4, q4, hcell_ext m5 dA, hA5.ext m5, hcell_ext m5 dB⟩
          · obtain ⟨m, r, at', told, h1, h2, h3, h4, h5, h6, h7⟩ := hJ
            refine ⟨m.extIn e, (get_ext e (get_some_lt r)).trans r, at', told, hcell_ext e h1, hcell_ext e h2, hcell_ext e h3, ?_, ?_, ?_, h7⟩
            · rw [hfrozen_of_ext e (hcell_lt h1)]; exact h4
            · rw [hfrozen_of_ext e (hcell_lt h2)]; exact h5
            · rw [hfrozen_of_ext e (hcell_lt h3)]; exact h6
          · obtain ⟨m, r, at', told, h1, h2, h3, h4, h5, h6, h7, h8, h9, h10⟩ := hJ
            refine ⟨m, r, at', told, h1, h2, h3, h4, h5, h6, by omega, by omega, fun j j1 j2 => ?_, fun j j2 => ?_⟩
            · by_cases e : j = i
              · rw [e]; exact hz
              · exact h9 j j1 (by omega)
            · by_cases e : j = i
              · rw [e]; unfold bad; rw [hz]; rfl
              · exact h10 j (by omega)
          · obtain ⟨m, r, at', told, h1, h2, h3, q4, q5, q6, h7, h8, h9, h10⟩ := hJ
            have hbd : bad l b i = false := by unfold bad; rw [hG]; rfl
            have hif := lt_first (l := l) (b := b) (i := i) (fun j hj => if e : j = i then e ▸ hbd else h10 j (by omega)) hi
            have sm := m.size
            have lr := get_some_lt r
            refine hround _ _ _ rfl r ?_
            simp (disch := omega) [h1, h2, h3]
            refine ⟨(get_ext (h := h') (by repeat' (first | (with_reducible exact Ext.refl _) | (with_reducible assumption) | (with_reducible refine push_ext ?_) | (with_reducible refine hset_ext ?_ ?_) | (with_reducible refine Ext.trans ?_ (by assumption)) | omega | (simp; done) | (simp; omega) | (refine Ext.size ?_) | (refine Nat.le_succ_of_le (Ext.size ?_)))) (get_some_lt r)).trans r, ?_⟩
            refine loopA0 (fun (a : Nat) g => Mod (fun x => x = h6.size ∨ x = h6.size + 1 ∨ x = h6.size + 2 ∨ x = hb.size + 1) hc g ∧ g[hb.size + 1]? = some oB ∧ h'.size < g.size ∧ (Cel g h'.size 0 (.int .i64 k) ∧ Cel g h'.size 1 (.int .i64 p) ∧ Cel g h'.size 2 (.int .i64 n)) ∧
              Cel g h6.size 0 (.int .i64 a) ∧ Cel g (h6.size + 1) 0 (.int .i64 told) ∧ Cel g (h6.size + 2) 0 (.bool false) ∧ a ≤ i ∧ ∀ j : Nat, a ≤ j → j < i → getE l j b = ((0, 0, 0), 0)) (fun a => i - a) at' ?_ ?_
            · refine ⟨(by repeat' (first | (with_reducible exact Mod.refl _ _) | (with_reducible assumption) | (with_reducible refine Mod.pushIn ?_) | (with_reducible refine Mod.setIn ?_ ?_) | (with_reducible refine Mod.putIn ?_ ?_) | (with_reducible refine Mod.extIn ?_ (by assumption)) | (exact Or.inr (by omega)) | (exact Or.inr (by simp; omega)) | (exact Or.inl (by simp)) | (exact Or.inl (by simp; omega)))), ?_, ?_, ⟨⟨?_, ?_⟩, ⟨?_, ?_⟩, ⟨?_, ?_⟩⟩, ⟨?_, ?_⟩, ⟨?_, ?_⟩, ⟨?_, ?_⟩, h7, h9⟩
              · exact get_put (by simp; omega)
              · simp
              all_goals first | rw [hcell_put (by dsimp only; omega)] | rw [hfrozen_put (by dsimp only; omega)]
              all_goals (simp (disch := omega) [h1, h2, h3, q4, q5, q6])
            · rintro a g ⟨mg, rg, sg, ⟨xk, xp, xn⟩, xa, xt, xs, ha, hz⟩
              have m5 : Ext h5 g := mg.ext_from (e6.trans ecx) (fun x hx hS => by omega)
              have s5 : h4.size ≤ h5.size := s5
              have g0 := hcell_ext m5 d0
              have g1 := hcell_ext m5 d1
              have g2 := hcell_ext m5 d2
              have gk := hcell_ext m5 dk
              have lT := hcell_lt cT
              dsimp only at lT
              have cTc := hcell_ext ecx cT
              have gT := (mg.cell (a := ⟨T, 0, none⟩) (hcell_lt cTc) (by dsimp only; omega)).trans cTc
              have zg := mg.size
              by_cases hai : (a : Int) < i
              · simp (disch := omega) [xa.get, hai, g0, g1]
                refine ERefGet_c (hB5.ext m5) (by omega) (hz a (by omega) (by omega)) (fun h9 e9 => ?_)
                have ce9 := ext_cell e9 rfl; have fe9 := ext_frz e9 rfl; have se9 := (e9).size; (try simp only [Array.size_push, hset_size] at ce9); (try simp only [Array.size_push, hset_size] at fe9); (try simp only [Array.size_push, hset_size] at se9)
                simp (disch := omega) [ce9, fe9, xa.get, xa.free]
                have z9 := e9.size
                have m9 := mg.extIn e9
                have rg9 := (get_ext e9 (get_some_lt rg)).trans rg
                have lg := get_some_lt rg
                refine ⟨a + 1, ⟨(by repeat' (first | (with_reducible exact Mod.refl _ _) | (with_reducible assumption) | (with_reducible refine Mod.pushIn ?_) | (with_reducible refine Mod.setIn ?_ ?_) | (with_reducible refine Mod.putIn ?_ ?_) | (with_reducible refine Mod.extIn ?_ (by assumption)) | (exact Or.inr (by omega)) | (exact Or.inr (by simp; omega)) | (exact Or.inl (by simp)) | (exact Or.inl (by simp; omega)))), (by repeat' (first | (with_reducible assumption) | (with_reducible exact get_put (by simp; omega)) | (refine (get_hset' ?_).trans ?_) | (refine (get_push ?_).trans ?_) | (refine (get_putne ?_).trans ?_) | (refine (get_ext (by assumption) ?_).trans ?_) | omega | (dsimp only; omega) | (simp; done) | (simp; omega))), (by first | omega | (dsimp only; omega) | (simp; done) | (simp; omega)), ⟨?_, ?_, ?_⟩, ?_, ?_, ?_, by omega, fun j j1 j2 => hz j (by omega) j2⟩, by omega⟩
                all_goals simp (disch := omega) [Cel_iff, ce9, fe9, xa.get, xa.free, xt.get, xt.free, xs.get, xs.free, xk.get, xp.get, xn.get, xk.free, xp.free, xn.free]
              · have hai' : a = i := by omega
                simp (disch := omega) [xa.get, hai, g0, g1]
                refine ERefGet_c (hB5.ext m5) (by omega) hG (fun h9 e9 => ?_)
                have ce9 := ext_cell e9 rfl; have fe9 := ext_frz e9 rfl; have se9 := (e9).size; (try simp only [Array.size_push, hset_size] at ce9); (try simp only [Array.size_push, hset_size] at fe9); (try simp only [Array.size_push, hset_size] at se9)
                simp (disch := omega) [ce9, fe9, xa.get, xa.free, xt.get, xt.free, xs.get, xs.free, xk.get, xp.get, xn.get, gk, hif, hnz, gT, g2]
                have z9 := e9.size
                have m9 := mg.extIn e9
                have rg9 := (get_ext e9 (get_some_lt rg)).trans rg
                have lg := get_some_lt rg
                refine Split.mk (fun ht0 => ?_) (fun ht0 => ?_)
                · simp (disch := omega) [ce9, fe9, xt.get, xt.free, g2]
                  refine Split.mk (fun ht1 => ?_) (fun ht1 => ?_)
                  · simp (disch := omega) [ce9, fe9, xs.get, xs.free]
                    refine ⟨(by repeat' (first | (with_reducible assumption) | (with_reducible exact get_put (by simp; omega)) | (refine (get_hset' ?_).trans ?_) | (refine (get_push ?_).trans ?_) | (refine (get_putne ?_).trans ?_) | (refine (get_ext (by assumption) ?_).trans ?_) | omega | (dsimp only; omega) | (simp; done) | (simp; omega))), hK2 _ ⟨(by repeat' (first | (with_reducible exact Mod.refl _ _) | (with_reducible assumption) | (with_reducible refine Mod.pushIn ?_) | (with_reducible refine Mod.setIn ?_ ?_) | (with_reducible refine Mod.putIn ?_ ?_) | (with_reducible refine Mod.extIn ?_ (by assumption)) | (exact Or.inr (by omega)) | (exact Or.inr (by simp; omega)) | (exact Or.inl (by simp)) | (exact Or.inl (by simp; omega)))), (by repeat' (first | (with_reducible assumption) | (with_reducible exact get_put (by simp; omega)) | (refine (get_hset' ?_).trans ?_) | (refine (get_push ?_).trans ?_) | (refine (get_putne ?_).trans ?_) | (refine (get_ext (by assumption) ?_).trans ?_) | omega | (dsimp only; omega) | (simp; done) | (simp; omega))), i + 1, ?_, ?_, ?_⟩⟩
                    all_goals simp (disch := omega) [hcell_put', hfrozen_put', ce9, fe9, xs.get, xs.free, xa.get, xa.free]
                  · simp (disch := omega)
                    refine ⟨(by repeat' (first | (with_reducible assumption) | (with_reducible exact get_put (by simp; omega)) | (refine (get_hset' ?_).trans ?_) | (refine (get_push ?_).trans ?_) | (refine (get_putne ?_).trans ?_) | (refine (get_ext (by assumption) ?_).trans ?_) | omega | (dsimp only; omega) | (simp; done) | (simp; omega))), hK1 _ ⟨(by repeat' (first | (with_reducible exact Mod.refl _ _) | (with_reducible assumption) | (with_reducible refine Mod.pushIn ?_) | (with_reducible refine Mod.setIn ?_ ?_) | (with_reducible refine Mod.putIn ?_ ?_) | (with_reducible refine Mod.extIn ?_ (by assumption)) | (exact Or.inr (by omega)) | (exact Or.inr (by simp; omega)) | (exact Or.inl (by simp)) | (exact Or.inl (by simp; omega)))), (by repeat' (first | (with_reducible assumption) | (with_reducible exact get_put (by simp; omega)) | (refine (get_hset' ?_).trans ?_) | (refine (get_push ?_).trans ?_) | (refine (get_putne ?_).trans ?_) | (refine (get_ext (by assumption) ?_).trans ?_) | omega | (dsimp only; omega) | (simp; done) | (simp; omega))), i + 1, told + 1, ?_, ?_, ?_, ?_, ?_, ?_, by omega, by omega, fun j j1 j2 => by omega, fun j j2 => ?_⟩⟩
                    case refine_7 => exact if e : j = i then e ▸ hbd else h10 j (by omega)
                    all_goals simp (disch := omega) [hcell_put', hfrozen_put', ce9, fe9, xs.get, xs.free, xa.get, xa.free, xt.get, xt.free]
                · simp (disch := omega)
                  refine ⟨(by repeat' (first | (with_reducible assumption) | (with_reducible exact get_put (by simp; omega)) | (refine (get_hset' ?_).trans ?_) | (refine (get_push ?_).trans ?_) | (refine (get_putne ?_).trans ?_) | (refine (get_ext (by assumption) ?_).trans ?_) | omega | (dsimp only; omega) | (simp; done) | (simp; omega))), hK1 _ ⟨(by repeat' (first | (with_reducible exact Mod.refl _ _) | (with_reducible assumption) | (with_reducible refine Mod.pushIn ?_) | (with_reducible refine Mod.setIn ?_ ?_) | (with_reducible refine Mod.putIn ?_ ?_) | (with_reducible refine Mod.extIn ?_ (by assumption)) | (exact Or.inr (by omega)) | (exact Or.inr (by simp; omega)) | (exact Or.inl (by simp)) | (exact Or.inl (by simp; omega)))), (by repeat' (first | (with_reducible assumption) | (with_reducible exact get_put (by simp; omega)) | (refine (get_hset' ?_).trans ?_) | (refine (get_push ?_).trans ?_) | (refine (get_putne ?_).trans ?_) | (refine (get_ext (by assumption) ?_).trans ?_) | omega | (dsimp only; omega) | (simp; done) | (simp; omega))), i + 1, told + 1, ?_, ?_, ?_, ?_, ?_, ?_, by omega, by omega, fun j j1 j2 => by omega, fun j j2 => ?_⟩⟩
                  case refine_7 => exact if e : j = i then e ▸ hbd else h10 j (by omega)
                  all_goals simp (disch := omega) [hcell_put', hfrozen_put', ce9, fe9, xs.get, xs.free, xa.get, xa.free, xt.get, xt.free]
          · rw [← ec]
            exact ⟨Mod.refl _ _, rL, 0, 0, xA, xT, xS, yA, yT, yS, by omega, by omega, fun j h1 h2 => by omega, fun j h1 => by omega⟩
          · have hf := first_of hJ.2.2.choose_spec.choose_spec.2.2.2.2.2.2.2.2.2 hend
            obtain ⟨m, r, at', told, h1, h2, h3, h4, h5, h6', h7, h8, h9, h10⟩ := hJ
            have sm := m.size
            refine hN _ _ r (hkk _ _ ⟨consD_marks _ _, (m.putIn (o := oE) (.inl (.inr (.inr (.inr rfl))))).ext_from ecx (fun x hx hS => by omega), ?_, at', false, ?_, ?_, ?_, fun _ => ⟨by omega, fun j j1 j2 => h9 j j1 (by omega)⟩⟩)
            · exact (get_putne (show hb.size ≠ hb.size + 1 by omega)).trans ((m.block hb.size (by omega) (by omega)).trans rD)
            · exact (hcell_put (show h6.size ≠ hb.size + 1 by omega)).trans h1
            · exact (hcell_put (show h6.size + 2 ≠ hb.size + 1 by omega)).trans h3
            · exact (hfrozen_put (show h6.size ≠ hb.size + 1 by omega)).trans h4
          · obtain ⟨m, r, at', h1, h2, h3⟩ := hE
            have sm := m.size
            refine hX _ _ 4 r (hkk _ _ ⟨consD_marks _ _, (m.putIn (.inl (.inr (.inr (.inr rfl))))).ext_from ecx (fun x hx hS => by omega), ?_, at', true, ?_, ?_, ?_, fun e => by cases e⟩)
            · exact (get_putne (show hb.size ≠ hb.size + 1 by omega)).trans ((m.block hb.size (by omega) (by omega)).trans rD)
            · exact (hcell_put (show h6.size ≠ hb.size + 1 by omega)).trans h1
            · exact (hcell_put (show h6.size + 2 ≠ hb.size + 1 by omega)).trans h2
            · exact (hfrozen_put (show h6.size ≠ hb.size + 1 by omega)).trans h3
        · have e7 : Ext h6 h7 := hD.2.1
          have rd7 := hD.2.2.1
          have E57 := e6.trans e7
          have cT7 := hcell_ext e7 cT
          have dk7 := hcell_ext E57 dk
          have d07 := hcell_ext E57 d0
          have d17 := hcell_ext E57 d1
          have hB7 := hB5.ext E57
          refine hD.2.2.2.elim fun at0 hx => hx.elim fun st hx => ?_
          refine loop0 (fun h' => Mod (fun x => x = h6.size) h7 h' ∧ ∃ at' : Nat, hcell h' ⟨h6.size, 0, none⟩ = some (.int .i64 at') ∧ hfrozen h' ⟨h6.size, 0, none⟩ = false ∧ (st = false → at' ≤ (firstR l b).1 ∧ ∀ j : Nat, at' ≤ j → j < (firstR l b).1 → getE l j b = ((0, 0, 0), 0)))
            (fun h' => match hcell h' ⟨h6.size, 0, none⟩ with | some (.int _ n) => ((firstR l b).1 - n).toNat | _ => 0) ⟨Mod.refl _ _, at0, hx.1, hx.2.2.1, hx.2.2.2⟩ ?_
          rintro h8 ⟨m8, hx8⟩
          refine hx8.elim fun at' hx8 => ?_
          have q0 := hx8.1
          have q1 := hx8.2.1
          have q2 := hx8.2.2
          have e58 : Ext h5 h8 := m8.ext_from E57 (fun x hx he => by have := e6.size; omega)
          have dk8 := hcell_ext e58 dk
          have d08 := hcell_ext e58 d0
          have d18 := hcell_ext e58 d1
          have ltT := hcell_lt cT
          have z7 := e7.size
          have z8 := m8.size
          dsimp only at ltT
          have st8 : hcell h8 ⟨h6.size + 2, 0, none⟩ = some (.bool st) := (m8.cell (a := ⟨h6.size + 2, 0, none⟩) (hcell_lt hx.2.1) (show h6.size + 2 ≠ h6.size by omega)).trans hx.2.1
          have cT8 : hcell h8 ⟨T, 0, none⟩ = some (.int .i64 turn) := (m8.cell (a := ⟨T, 0, none⟩) (hcell_lt cT7) (show T ≠ h6.size by omega)).trans cT7
          have rd8 : h8[hb.size]? = some (.deferred (some [])) := (m8.block _ (get_some_lt rd7) (show hb.size ≠ h6.size by omega)).trans rd7
          have ds8 : ∀ d, d ∈ ds → h8[d]? = some (.deferred (some [])) := fun d hd => by
            have := hds d hd
            have lt6 := get_some_lt this.1
            exact (m8.block d (by omega) (show d ≠ h6.size by omega)).trans ((get_ext e7 lt6).trans this.1)
          have lt6 : ∀ d, d ∈ ds → d < h6.size := fun d hd => get_some_lt (hds d hd).1
          have lt8 := hcell_lt q0
          dsimp only at lt8
          have fin : ∀ d, d ∈ hb.size :: ds → (hset (hset (Array.push h8 (.cells #[.int .i64 0] 3)) ⟨h8.size, 0, none⟩ (.int .i64 turn)) ⟨h8.size, 0, none⟩ (.int .i64 (turn + 1)))[d]? = some (.deferred (some [])) ∧ h5.size ≤ d := fun d hd => by
            have lb := get_some_lt rd8
            rcases List.mem_cons.1 hd with e | hd
            · rw [e]
              exact ⟨(get_hset (show hb.size ≠ h8.size by omega)).trans ((get_hset (show hb.size ≠ h8.size by omega)).trans ((get_push (by omega)).trans rd8)), by omega⟩
            · have := lt6 d hd
              exact ⟨(get_hset (show d ≠ h8.size by omega)).trans ((get_hset (show d ≠ h8.size by omega)).trans ((get_push (by omega)).trans (ds8 d hd))), (hds d hd).2⟩
          have fin2 : (hb.size :: ds).Nodup := List.nodup_cons.2 ⟨fun hd => by have := lt6 _ hd; omega, hnd⟩
          by_cases hgo : (at' : Int) < (firstR l b).1 ∧ st = false
          · have hG := (q2 hgo.2).2 at' (Nat.le_refl _) (by omega)
            simp (disch := omega) [q0, dk8, hgo.1, st8, hgo.2, d08, d18]
            refine ERefGet_c (hB5.ext e58) (by omega) hG (fun h9 e9 => ?_)
            have ce9 := ext_cell e9 rfl; have fe9 := ext_frz e9 rfl; have se9 := (e9).size; (try simp only [Array.size_push, hset_size] at ce9); (try simp only [Array.size_push, hset_size] at fe9); (try simp only [Array.size_push, hset_size] at se9)
            have hfb := first_le l b
            simp (disch := omega) [ce9, fe9, q0, q1]
            refine ⟨⟨?_, at' + 1, by simp, fun hs => ⟨by omega, fun j j1 j2 => (q2 hs).2 j (by omega) j2⟩⟩, by omega⟩
            exact (by repeat' (first | (with_reducible exact Mod.refl _ _) | (with_reducible assumption) | (with_reducible refine Mod.pushIn ?_) | (with_reducible refine Mod.setIn ?_ ?_) | (with_reducible refine Mod.putIn ?_ ?_) | (with_reducible refine Mod.extIn ?_ (by assumption)) | (exact Or.inr (by omega)) | (exact Or.inr (by simp; omega)) | (exact Or.inl (by simp)) | (exact Or.inl (by simp; omega))))
          · by_cases hlt : (at' : Int) < (firstR l b).1
            · have hst : st = true := by cases st with | true => rfl | false => exact absurd ⟨hlt, rfl⟩ hgo
              simp (disch := omega) [q0, dk8, hlt, st8, hst, cT8]
              exact ⟨hb.size :: ds, hD.1, turn + 1, ⟨(by repeat' (first | (with_reducible exact Ext.refl _) | (with_reducible assumption) | (with_reducible refine push_ext ?_) | (with_reducible refine hset_ext ?_ ?_) | (with_reducible refine Ext.trans ?_ (by assumption)) | omega | (simp; done) | (simp; omega) | (refine Ext.size ?_) | (refine Nat.le_succ_of_le (Ext.size ?_)))), by simp, by omega, fin, fin2⟩, by omega⟩
            · simp (disch := omega) [q0, dk8, hlt, cT8]
              exact ⟨hb.size :: ds, hD.1, turn + 1, ⟨(by repeat' (first | (with_reducible exact Ext.refl _) | (with_reducible assumption) | (with_reducible refine push_ext ?_) | (with_reducible refine hset_ext ?_ ?_) | (with_reducible refine Ext.trans ?_ (by assumption)) | omega | (simp; done) | (simp; omega) | (refine Ext.size ?_) | (refine Nat.le_succ_of_le (Ext.size ?_)))), by simp, by omega, fin, fin2⟩, by omega⟩
    · refine hL.elim fun L hL => ?_
      have hne : L.map byteV ≠ [] := fun e => by have := congrArg List.length e; simp at this; rw [this] at hL; simp at hL; omega
      refine (hL.2.nonnil hne).elim fun B hx => hx.elim fun n3 hx => hx.elim fun c3 hx => ?_
      have hso : o3 = some ⟨B, 0, none⟩ := by have := hx.1; rw [hv3] at this; simp at this; exact this.1
      have hvB : v3 = .slice (some ⟨B, 0, none⟩) l.length q3 := by rw [hv3, hso]
      have hO := hL.2
      rw [hvB] at hO
      have h1 := hO.set1 (x := 255) (k := k) (by omega)
      simp (disch := omega) [hvB, h1.1, h1.2.1]
      refine ⟨k + 1, by simp, ⟨by omega, ?_, L.set k 255, by simpa using hL.1, ?_⟩, by omega⟩
      · rw [← hvB]
        exact hM5.setIn (a := elt ⟨B, 0, none⟩ k) (.inl (by rw [hvB]; simp [blkV]))
      · exact h1.2.2
end Go.Proofs.Ytmppolccfjfoaaa
namespace Go.Proofs.Ytmppolccfjfoaaa.entryAll
open Go.ChangeShapes Go.WideShapes Go.ChangeAt Go.RowKit Go.Joins Go.Vc

theorem own : ownKnob Try.prog.godebug = none := by kernel_rfl
theorem laidOut : laidOutB Try.prog = true := by kernel_rfl

set_option maxRecDepth 100000 in
set_option maxHeartbeats 1000000 in
theorem lifted (os : Os) (started : os.Started) (H : Type) (enc : TypeId × Value → H) :
    ReturnsInHanded {} Try.checked os 8 .any (Rows.entryAllSpec.pre6 enc Try.prog Try.f8 Rows.entryAllRow.domain false) (Rows.entryAllSpec.post enc Try.prog Try.f8 false true false false) := by
  refine returnsInHanded_of_change (C := Try.checked) own started (by kernel_rfl) Try.func8
    (ChangeSpec.witness6 (enc := enc) (C := Try.checked) false ⟨#[], #[.slice none 0 0, .int .i64 9, .int .i64 0], []⟩ 8 (by kernel_rfl) (by kernel_rfl) (by kernel_rfl) (by kernel_rfl)) ?_
  intro W base args ds gs before hval0 hW hcnd _
  have hval : ∀ (j : Nat) t v, Try.f8.params[j]? = some t → args[j]? = some v → Value.okWide Try.prog W .any base t v := hval0
  have hW' := hW
  obtain ⟨p, q, hA0, hV, rfl, hfz, hnd⟩ := hW
  have hA : DataW.TrodAll enc Try.prog W 0 (fun _ => true) true Try.f8.params.toList args.toList ds p := hA0
  rw [Try.params8] at hA hval
  obtain ⟨v0, vs0, d0, ds0, p0, q0, hargs, rfl, rfl, h0, r0⟩ := trodAll_cons hA
  obtain ⟨v1, vs1, d1, ds1, p1, q1, rfl, rfl, rfl, h1, r1⟩ := trodAll_cons r0
  obtain ⟨v2, vs2, d2, ds2, p2, q2, rfl, rfl, rfl, h2, r2⟩ := trodAll_cons r1
  obtain ⟨rfl, rfl, rfl⟩ := trodAll_nil r2
  obtain rfl : args = #[v0, v1, v2] := by cases args; simp_all
  obtain ⟨l, hB, _⟩ := open_bytes (e := 5) (by kernel_rfl) (by kernel_rfl) (by kernel_rfl) (hval 0 39 v0 rfl rfl) h0
  obtain ⟨b, rfl, _, _, wb⟩ := open_int (k := .i64) (by kernel_rfl) (hval 1 3 v1 rfl rfl) h1
  obtain ⟨n, rfl, _, _, wn⟩ := open_int (k := .i64) (by kernel_rfl) (hval 2 3 v2 rfl rfl) h2
  refine ((EntryAll_c (h := W.heap) hB (K := fun v h' => v = .bool true ∧ Ext W.heap h') (fun h' e => ⟨rfl, e⟩)).out W rfl).mono fun e W' ⟨v, he, hs, hv, hx⟩ => ?_
  exact ⟨v, he, hv ▸ law_post laidOut (by kernel_rfl) rfl (tb := 4) (by kernel_rfl) (by kernel_rfl) hW' (fun hg => by rw [hg]; rfl) (below_of hs hx)⟩

theorem proved : Rows.EntryAllSaid :=
  OpenClaim.holds_of_wide 8 Try.f8 rfl rfl rfl rfl rfl rfl rfl ⟨rfl, rfl, rfl, rfl, rfl⟩ rfl rfl rfl rfl rfl (by kernel_rfl) Try.func8 (by kernel_rfl)
    (of_decide_eq_true (by kernel_rfl)) (by unfold Func.isWrapper; first | (rw [if_pos (by decide +kernel)]; kernel_rfl) | (rw [if_neg (by decide +kernel)]; exact ⟨rfl, rfl⟩))
    (fun os started H enc _ => lifted os started H enc)
end Go.Proofs.Ytmppolccfjfoaaa.entryAll
