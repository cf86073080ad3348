/- What is proved: the law palimpsestlaw07.StopsSome returns true for every input, and its arguments read as they did. No conditions. -/
import Derived.Test.YtdmcaaojapcbcaaRows
import Derived.Test.YtdmcaaojapcbcaaSptA
set_option linter.unusedSimpArgs false
set_option linter.unusedVariables false
namespace Go.Proofs.Ytdmcaaojapcbcaa
open Go.Vc
variable {K : Value → Heap → Prop} {h : Heap}

theorem Its.own {v : Value} {l : List Int} (o : OwnG 3 1 h v (l.map inV)) (hl : l.length < 9223372036854775808) (ho : ∀ n ∈ l, -9223372036854775808 ≤ n ∧ n < 9223372036854775808) : Its h v l := by
  obtain ⟨a, n, c, rfl, h1, h2, h3⟩ := o.form
  obtain rfl : n = l.length := by simpa using h1.symm
  exact ⟨o.src, ⟨_, _, rfl, h2⟩, hl, ho⟩
/-- A range over a function that calls nothing. -/
theorem RetD_two {a b : Nat} {k : Heap → Prop} (ha : h[a]? = some (.deferred (some []))) (hb : h[b]? = some (.deferred (some []))) (hab : a ≠ b) (H : ∀ h', Mod (fun x => x = a ∨ x = b) h h' → k h') : RetD (consD a (consD b (.tuple #[]))) h k ⟨⟩ := by
  have := RetD_all (ds := [a, b]) (h := h) (k := k) (fun d hd => by
    simp at hd
    rcases hd with rfl | rfl
    · exact ha
    · exact hb) (by simp [hab]) (fun h' m => H h' (m.mono fun x _ e => by simpa using e))
  rw [← consD_marks, ← consD_marks] at this
  exact this
set_option maxHeartbeats 16000000 in
theorem StopsSome_c {w : Value} {seed n : Int} {xs : List Pw} (hs : Pws h w xs) (s0 : 0 ≤ seed ∧ seed < 18446744073709551616) (n0 : -9223372036854775808 ≤ n) (n1 : n < 9223372036854775808) (H : ∀ h', Ext h h' → K (.bool true) h') : CallsH Try.prog 8 #[w, .int .u64 seed, .int .i64 n] h K ⟨⟩ := by
  refine n8_calls ?_
  unfold n8
  obtain ⟨wa, wc, rfl⟩ := hs.form
  have l2 := hs.len
  simp (disch := omega)
  refine (⟨_, rfl⟩ : ∃ f, f = h.push (.cells #[.bool false] 4)).elim fun h0 eh0 => ?_
  have e0 : Ext h h0 := by rw [eh0]; exact (by repeat' (first | (with_reducible exact Ext.refl _) | (with_reducible assumption) | (with_reducible refine push_ext ?_) | (with_reducible refine hset_ext ?_ ?_) | (with_reducible refine Ext.trans ?_ (by assumption)) | omega | (simp; done) | (simp; omega) | (refine Ext.size ?_) | (refine Nat.le_succ_of_le (Ext.size ?_))))
  have r0 : h0[h.size]? = some (.cells #[.bool false] 4) := by rw [eh0]; exact get_pushed rfl
  rw [show h.push (.cells #[.bool false] 4) = h0 from eh0.symm]
  clear eh0
  have z0 := e0.size
  have hrl := get_some_lt r0
  have out1 : ∀ g, Ext h0 g → K (.bool true) (hset g ⟨h.size, 0, none⟩ (.bool true)) := fun g e => H _ (hset_ext (e0.trans e) (by simp))
  refine vast7_c (hs.ext e0) ?_ (fun hn hlim => ?_)
  · simp (disch := omega)
    refine known7_c fun h1 e1 => ?_
    have rz := (e1.block h.size hrl).trans r0
    have cz := cellOf (i := 0) rz rfl
    have fz := frzOf (i := 0) rz
    simp (disch := omega) [cz, fz]
    refine RetD_nil ?_
    simp (disch := omega) [cz]
    exact out1 _ e1
  by_cases hmid : 300 < n ∧ n ≤ 1000
  · have hm1 := hmid.1
    have hm2 := hmid.2
    simp (disch := omega)
    refine known7_c fun h1 e1 => ?_
    have rz := (e1.block h.size hrl).trans r0
    have cz := cellOf (i := 0) rz rfl
    have fz := frzOf (i := 0) rz
    simp (disch := omega) [cz, fz]
    refine RetD_nil ?_
    simp (disch := omega) [cz]
    exact out1 _ e1
  have hmid' : n ≤ 300 ∨ 1000 < n := by omega
  by_cases hbig : 300 < n
  · have hbig2 : 1000 < n := by omega
    simp (disch := omega)
    refine both_c (hs.ext e0) hn hlim fun h1 p s pr r I al _ => ?_
    have hpd := I.few
    simp (disch := omega)
    refine rPending_c I.rs ?_
    rw [al.pend]
    refine Some_st I.st hpd s0 n0 n1 (fun h2 e e2 he => ?_) (fun h2 v bs e2 _ hb2 _ _ => by omega)
    rcases he with ⟨he, rfl⟩ | ⟨-, rfl⟩
    · omega
    have I2 := I.of_ext e2 (Nat.le_refl _) (Nat.le_refl _)
    simp (disch := omega)
    refine SomeN (.inl rfl) ?_
    simp (disch := omega)
    refine CountN (.inl rfl) ?_
    simp (disch := omega)
    refine (⟨_, rfl⟩ : ∃ f, f = Array.push h2 (.cells #[.map none, .slice none 0 0, .int .i64 0] sT)).elim fun gZ egZ => ?_
    have eZ : Ext h2 gZ := by rw [egZ]; exact (by repeat' (first | (with_reducible exact Ext.refl _) | (with_reducible assumption) | (with_reducible refine push_ext ?_) | (with_reducible refine hset_ext ?_ ?_) | (with_reducible refine Ext.trans ?_ (by assumption)) | omega | (simp; done) | (simp; omega) | (refine Ext.size ?_) | (refine Nat.le_succ_of_le (Ext.size ?_))))
    have qZ : gZ[(h2).size]? = some (.cells #[.map none, .slice none 0 0, .int .i64 0] sT) := by rw [egZ]; exact get_pushed rfl
    rw [show Array.push h2 (.cells #[.map none, .slice none 0 0, .int .i64 0] 68) = gZ from egZ.symm]
    clear egZ
    refine PlainN (.inr ⟨_, rfl, qZ⟩) ?_
    simp (disch := omega)
    refine AllN (.inl rfl) ?_
    refine ImagesN (.inl rfl) ?_
    simp (disch := omega)
    refine JoinN_in1 (fun D g => D = consD gZ.size (.tuple #[]) ∧ g[gZ.size]? = some (.deferred (some [])) ∧ Ext gZ g) (fun kk hkk => ?_) (fun D gA hD => ?_)
    · refine JoinN.mk ?_
      refine RangeC_none rfl fun oR oB oE oX oF Kp hoR hoB hrd hN hR hX => ?_
      refine InvokeH_f1 (by kernel_rfl) ?_
      refine n70_calls ?_
      unfold n70
      refine hN _ _ (get_pushed (by simp)) ?_
      dsimp only
      have mE := Mod.put ((gZ.push (.deferred (some []))).push oR) (gZ.size + 1) oE
      refine hkk _ _ ⟨rfl, (mE.block _ (by simp; omega) (by omega)).trans ((get_push (by simp)).trans (get_pushed rfl)), mE.ext_from (by repeat' (first | (with_reducible exact Ext.refl _) | (with_reducible assumption) | (with_reducible refine push_ext ?_) | (with_reducible refine hset_ext ?_ ?_) | (with_reducible refine Ext.trans ?_ (by assumption)) | omega | (simp; done) | (simp; omega) | (refine Ext.size ?_) | (refine Nat.le_succ_of_le (Ext.size ?_)))) (fun b hb e => by omega)⟩
    obtain ⟨rfl, hdA, eA⟩ := hD
    have hlA := get_some_lt hdA
    refine JoinN_in1 (fun D g => D = consD gA.size (consD gZ.size (.tuple #[])) ∧ g[gA.size]? = some (.deferred (some [])) ∧ Ext gA g) (fun kk hkk => ?_) (fun D gB hD => ?_)
    · refine JoinN.mk ?_
      refine RangeC_none rfl fun oR oB oE oX oF Kp hoR hoB hrd hN hR hX => ?_
      refine InvokeH_f1 (by kernel_rfl) ?_
      refine n74_calls ?_
      unfold n74
      refine hN _ _ (get_pushed (by simp)) ?_
      dsimp only
      have mE := Mod.put ((gA.push (.deferred (some []))).push oR) (gA.size + 1) oE
      refine hkk _ _ ⟨rfl, (mE.block _ (by simp; omega) (by omega)).trans ((get_push (by simp)).trans (get_pushed rfl)), mE.ext_from (by repeat' (first | (with_reducible exact Ext.refl _) | (with_reducible assumption) | (with_reducible refine push_ext ?_) | (with_reducible refine hset_ext ?_ ?_) | (with_reducible refine Ext.trans ?_ (by assumption)) | omega | (simp; done) | (simp; omega) | (refine Ext.size ?_) | (refine Nat.le_succ_of_le (Ext.size ?_)))) (fun b hb e => by omega)⟩
    obtain ⟨rfl, hdB, eB⟩ := hD
    have hdA := (eB.block _ hlA).trans hdA
    have EB := (eZ.trans eA).trans eB
    have hlB := get_some_lt hdB
    have zA := eA.size
    have zB := eB.size
    have zZ := eZ.size
    simp (disch := omega)
    refine known7_c fun h20 e20 => ?_
    have E20 := (I2.ext).trans (EB.trans e20)
    have rz := (E20.block h.size hrl).trans r0
    have cz := cellOf (i := 0) rz rfl
    have fz := frzOf (i := 0) rz
    have hz20 := E20.size
    have dA := (e20.block _ (by omega)).trans hdA
    have dB := (e20.block _ hlB).trans hdB
    have zI := (I2.ext).size
    simp (disch := omega) [cz, fz]
    refine RetD_two ((get_hset' (by omega)).trans dB) ((get_hset' (by omega)).trans dA) (by omega) fun h21 m21 => ?_
    have rz9 := (m21.block h.size (by rw [hset_size]; exact get_some_lt rz) (by omega)).trans (obj_set (i := 0) (v := .bool true) rz)
    have cz9 := cellOf (i := 0) rz9 rfl
    simp (disch := omega) [cz9]
    exact H _ (m21.ext_from (hset_ext (e0.trans E20) (by simp)) (fun b hb e => by omega))
  · simp (disch := omega)
    refine both_c (hs.ext e0) hn hlim fun h1 p s pr r I al _ => ?_
    have hpd := I.few
    simp (disch := omega)
    refine rPending_c I.rs ?_
    rw [al.pend]
    refine Some_st I.st hpd s0 n0 n1 (fun h2 e e2 he => ?_) (fun h2 v bs e2 hb1 hb2 hbl ws => ?_)
    · rcases he with ⟨he, rfl⟩ | ⟨he, -⟩
      · have I2 := I.of_ext e2 (Nat.le_refl _) (Nat.le_refl _)
        simp (disch := omega)
        refine SomeN (.inl rfl) ?_
        simp (disch := omega)
        refine CountN (.inl rfl) ?_
        simp (disch := omega)
        refine (⟨_, rfl⟩ : ∃ f, f = Array.push h2 (.cells #[.map none, .slice none 0 0, .int .i64 0] sT)).elim fun gZ egZ => ?_
        have eZ : Ext h2 gZ := by rw [egZ]; exact (by repeat' (first | (with_reducible exact Ext.refl _) | (with_reducible assumption) | (with_reducible refine push_ext ?_) | (with_reducible refine hset_ext ?_ ?_) | (with_reducible refine Ext.trans ?_ (by assumption)) | omega | (simp; done) | (simp; omega) | (refine Ext.size ?_) | (refine Nat.le_succ_of_le (Ext.size ?_))))
        have qZ : gZ[(h2).size]? = some (.cells #[.map none, .slice none 0 0, .int .i64 0] sT) := by rw [egZ]; exact get_pushed rfl
        rw [show Array.push h2 (.cells #[.map none, .slice none 0 0, .int .i64 0] 68) = gZ from egZ.symm]
        clear egZ
        refine PlainN (.inr ⟨_, rfl, qZ⟩) ?_
        simp (disch := omega)
        refine AllN (.inl rfl) ?_
        refine ImagesN (.inl rfl) ?_
        simp (disch := omega)
        refine JoinN_in1 (fun D g => D = consD gZ.size (.tuple #[]) ∧ g[gZ.size]? = some (.deferred (some [])) ∧ Ext gZ g) (fun kk hkk => ?_) (fun D gA hD => ?_)
        · refine JoinN.mk ?_
          refine RangeC_none rfl fun oR oB oE oX oF Kp hoR hoB hrd hN hR hX => ?_
          refine InvokeH_f1 (by kernel_rfl) ?_
          refine n70_calls ?_
          unfold n70
          refine hN _ _ (get_pushed (by simp)) ?_
          dsimp only
          have mE := Mod.put ((gZ.push (.deferred (some []))).push oR) (gZ.size + 1) oE
          refine hkk _ _ ⟨rfl, (mE.block _ (by simp; omega) (by omega)).trans ((get_push (by simp)).trans (get_pushed rfl)), mE.ext_from (by repeat' (first | (with_reducible exact Ext.refl _) | (with_reducible assumption) | (with_reducible refine push_ext ?_) | (with_reducible refine hset_ext ?_ ?_) | (with_reducible refine Ext.trans ?_ (by assumption)) | omega | (simp; done) | (simp; omega) | (refine Ext.size ?_) | (refine Nat.le_succ_of_le (Ext.size ?_)))) (fun b hb e => by omega)⟩
        obtain ⟨rfl, hdA, eA⟩ := hD
        have hlA := get_some_lt hdA
        refine JoinN_in1 (fun D g => D = consD gA.size (consD gZ.size (.tuple #[])) ∧ g[gA.size]? = some (.deferred (some [])) ∧ Ext gA g) (fun kk hkk => ?_) (fun D gB hD => ?_)
        · refine JoinN.mk ?_
          refine RangeC_none rfl fun oR oB oE oX oF Kp hoR hoB hrd hN hR hX => ?_
          refine InvokeH_f1 (by kernel_rfl) ?_
          refine n74_calls ?_
          unfold n74
          refine hN _ _ (get_pushed (by simp)) ?_
          dsimp only
          have mE := Mod.put ((gA.push (.deferred (some []))).push oR) (gA.size + 1) oE
          refine hkk _ _ ⟨rfl, (mE.block _ (by simp; omega) (by omega)).trans ((get_push (by simp)).trans (get_pushed rfl)), mE.ext_from (by repeat' (first | (with_reducible exact Ext.refl _) | (with_reducible assumption) | (with_reducible refine push_ext ?_) | (with_reducible refine hset_ext ?_ ?_) | (with_reducible refine Ext.trans ?_ (by assumption)) | omega | (simp; done) | (simp; omega) | (refine Ext.size ?_) | (refine Nat.le_succ_of_le (Ext.size ?_)))) (fun b hb e => by omega)⟩
        obtain ⟨rfl, hdB, eB⟩ := hD
        have hdA := (eB.block _ hlA).trans hdA
        have EB := (eZ.trans eA).trans eB
        have hlB := get_some_lt hdB
        have zA := eA.size
        have zB := eB.size
        have zZ := eZ.size
        simp (disch := omega) [he]
        refine known7_c fun h20 e20 => ?_
        have E20 := (I2.ext).trans (EB.trans e20)
        have rz := (E20.block h.size hrl).trans r0
        have cz := cellOf (i := 0) rz rfl
        have fz := frzOf (i := 0) rz
        have hz20 := E20.size
        have dA := (e20.block _ (by omega)).trans hdA
        have dB := (e20.block _ hlB).trans hdB
        have zI := (I2.ext).size
        simp (disch := omega) [cz, fz]
        refine RetD_two ((get_hset' (by omega)).trans dB) ((get_hset' (by omega)).trans dA) (by omega) fun h21 m21 => ?_
        have rz9 := (m21.block h.size (by rw [hset_size]; exact get_some_lt rz) (by omega)).trans (obj_set (i := 0) (v := .bool true) rz)
        have cz9 := cellOf (i := 0) rz9 rfl
        simp (disch := omega) [cz9]
        exact H _ (m21.ext_from (hset_ext (e0.trans E20) (by simp)) (fun b hb e => by omega))
      · omega
    · have I2 := I.of_ext e2 (Nat.le_refl _) (Nat.le_refl _)
      obtain ⟨oa, on, oc, rfl, hol, hoc, hone⟩ := ws.own.form
      obtain rfl : on = bs.length := by simpa using hol.symm
      obtain ⟨N, rfl⟩ := Int.eq_ofNat_of_zero_le hb1
      simp (disch := omega)
      refine SomeN (.inl rfl) ?_
      simp (disch := omega)
      refine CountN (.inl rfl) ?_
      simp (disch := omega)
      refine (⟨_, rfl⟩ : ∃ f, f = Array.push h2 (.cells #[.map none, .slice none 0 0, .int .i64 0] sT)).elim fun gZ egZ => ?_
      have eZ : Ext h2 gZ := by rw [egZ]; exact (by repeat' (first | (with_reducible exact Ext.refl _) | (with_reducible assumption) | (with_reducible refine push_ext ?_) | (with_reducible refine hset_ext ?_ ?_) | (with_reducible refine Ext.trans ?_ (by assumption)) | omega | (simp; done) | (simp; omega) | (refine Ext.size ?_) | (refine Nat.le_succ_of_le (Ext.size ?_))))
      have qZ : gZ[(h2).size]? = some (.cells #[.map none, .slice none 0 0, .int .i64 0] sT) := by rw [egZ]; exact get_pushed rfl
      rw [show Array.push h2 (.cells #[.map none, .slice none 0 0, .int .i64 0] 68) = gZ from egZ.symm]
      clear egZ
      refine PlainN (.inr ⟨_, rfl, qZ⟩) ?_
      simp (disch := omega)
      refine AllN (.inl rfl) ?_
      refine ImagesN (.inl rfl) ?_
      simp (disch := omega)
      refine JoinN_in1 (fun D g => D = consD gZ.size (.tuple #[]) ∧ g[gZ.size]? = some (.deferred (some [])) ∧ Ext gZ g) (fun kk hkk => ?_) (fun D gA hD => ?_)
      · refine JoinN.mk ?_
        refine RangeC_none rfl fun oR oB oE oX oF Kp hoR hoB hrd hN hR hX => ?_
        refine InvokeH_f1 (by kernel_rfl) ?_
        refine n70_calls ?_
        unfold n70
        refine hN _ _ (get_pushed (by simp)) ?_
        dsimp only
        have mE := Mod.put ((gZ.push (.deferred (some []))).push oR) (gZ.size + 1) oE
        refine hkk _ _ ⟨rfl, (mE.block _ (by simp; omega) (by omega)).trans ((get_push (by simp)).trans (get_pushed rfl)), mE.ext_from (by repeat' (first | (with_reducible exact Ext.refl _) | (with_reducible assumption) | (with_reducible refine push_ext ?_) | (with_reducible refine hset_ext ?_ ?_) | (with_reducible refine Ext.trans ?_ (by assumption)) | omega | (simp; done) | (simp; omega) | (refine Ext.size ?_) | (refine Nat.le_succ_of_le (Ext.size ?_)))) (fun b hb e => by omega)⟩
      obtain ⟨rfl, hdA, eA⟩ := hD
      have hlA := get_some_lt hdA
      refine JoinN_in1 (fun D g => D = consD gA.size (consD gZ.size (.tuple #[])) ∧ g[gA.size]? = some (.deferred (some [])) ∧ Ext gA g) (fun kk hkk => ?_) (fun D gB hD => ?_)
      · refine JoinN.mk ?_
        refine RangeC_none rfl fun oR oB oE oX oF Kp hoR hoB hrd hN hR hX => ?_
        refine InvokeH_f1 (by kernel_rfl) ?_
        refine n74_calls ?_
        unfold n74
        refine hN _ _ (get_pushed (by simp)) ?_
        dsimp only
        have mE := Mod.put ((gA.push (.deferred (some []))).push oR) (gA.size + 1) oE
        refine hkk _ _ ⟨rfl, (mE.block _ (by simp; omega) (by omega)).trans ((get_push (by simp)).trans (get_pushed rfl)), mE.ext_from (by repeat' (first | (with_reducible exact Ext.refl _) | (with_reducible assumption) | (with_reducible refine push_ext ?_) | (with_reducible refine hset_ext ?_ ?_) | (with_reducible refine Ext.trans ?_ (by assumption)) | omega | (simp; done) | (simp; omega) | (refine Ext.size ?_) | (refine Nat.le_succ_of_le (Ext.size ?_)))) (fun b hb e => by omega)⟩
      obtain ⟨rfl, hdB, eB⟩ := hD
      have hdA := (eB.block _ hlA).trans hdA
      have EB := (eZ.trans eA).trans eB
      have hlB := get_some_lt hdB
      have zA := eA.size
      have zB := eB.size
      have zZ := eZ.size
      simp (disch := omega)
      simp only [Int.toNat_natCast] at hbl
      have wsB := ws.ext EB
      refine loopX2 (α := Nat) (fun k => .int .u64 (lc (drawn s.pend k 0) seed)) (fun k => .int .i64 k) (fun k g => k ≤ N ∧ Ext gB g) (fun k => N - k) 0 ⟨rfl, rfl⟩ ⟨Nat.zero_le _, .refl _⟩ ?_
      rintro k g ⟨hk, eg⟩ X hX
      by_cases hkN : k < N
      · simp (disch := omega)
        have hWl := someW_len s.pend seed k
        have hbt := someW_bit (p := s.pend) s0 (k := k)
        have zg := eg.size
        refine loopX3 (α := Nat × Value) (fun a => .int .u64 (lc (drawn s.pend k a.1) seed)) (fun a => a.2) (fun a => .int .i64 a.1) (fun a g' => a.1 ≤ s.pend ∧ Ext gB g' ∧ OwnG 3 1 g' a.2 (((someW s.pend seed k).take a.1).map inV) ∧ ∀ b, blkG a.2 = some b → gB.size ≤ b) (fun a => s.pend - a.1) (0, .slice none 0 0) ⟨rfl, rfl, rfl⟩
          ⟨Nat.zero_le _, eg, by simpa using OwnG.nil, fun b hb => by cases hb⟩ ?_
        rintro ⟨i, wt⟩ g3 ⟨hi, e3, o3, lo3⟩ Y hY
        dsimp only at hi e3 o3 lo3 hY ⊢
        obtain ⟨ta, tn, tc, rfl, htn, htc, -⟩ := o3.form
        obtain rfl : tn = i := by rw [List.length_map, List.length_take, Nat.mul_one] at htn; omega
        by_cases hip : tn < s.pend
        · simp (disch := omega)
          have hget := someW_get (seed := seed) (k := k) hip
          rw [List.getElem?_eq_getElem (by omega)] at hget
          have hget := Option.some.inj hget
          have htk : ((someW s.pend seed k).take (tn + 1)).map inV = ((someW s.pend seed k).take tn).map inV ++ [inV ((someW s.pend seed k)[tn]'(by omega))] := by
            rw [List.take_succ_eq_append_getElem (by omega), List.map_append]; rfl
          have z3 := e3.size
          by_cases hk2 : k < 2
          · refine JoinN.mk ?_
            simp (disch := omega)
            refine JoinN.mk ?_
            simp (disch := omega)
            have e4 : Ext g3 (g3.push (.cells #[.int .i64 k] 3)) := (by repeat' (first | (with_reducible exact Ext.refl _) | (with_reducible assumption) | (with_reducible refine push_ext ?_) | (with_reducible refine hset_ext ?_ ?_) | (with_reducible refine Ext.trans ?_ (by assumption)) | omega | (simp; done) | (simp; omega) | (refine Ext.size ?_) | (refine Nat.le_succ_of_le (Ext.size ?_))))
            refine Hp_appendG (e := 3) (s := 1) (by_ := 8) (n := tn) (k := 1) (news := [.int .i64 k]) (by kernel_rfl) (by kernel_rfl) (o3.ext e4) (by rw [List.length_map, List.length_take]; omega) (by omega) (Src_new (vs := [.int .i64 k]) rfl) (by simp [one]) (by omega) (by omega) fun v5 h5 o5 m5 f5 _ => ?_
            have z4 := e4.size
            have e5 : Ext gB h5 := m5.ext_from (e3.trans e4) (fun b hb e => by have := lo3 b e; omega)
            have f5' : ∀ b, blkG v5 = some b → gB.size ≤ b := fun b hb => (f5 b hb).elim (lo3 b) (fun e => by have := Nat.le_trans z4 e; omega)
            simp (disch := omega)
            refine hY (tn + 1, v5) _ _ _ _ (by unfold drawn; rw [if_pos hk2, if_pos hk2]) rfl (by simp) ⟨hip, e5, ?_, f5'⟩ (by dsimp only; omega)
            rw [htk, hget]
            have hkk : (if k = 0 then (0 : Int) else if k = 1 then 1 else lc ((k - 2) * s.pend + tn + 1) seed / 9223372036854775808) = (k : Int) := by
              split
              · omega
              · rw [if_pos (by omega)]; omega
            rw [hkk]
            exact o5
          · have hdn : drawn s.pend k (tn + 1) = drawn s.pend k tn + 1 := by unfold drawn; rw [if_neg (by omega), if_neg (by omega)]; omega
            have hlc : IntKind.u64.wrap (IntKind.u64.wrap (lc (drawn s.pend k tn) seed * 6364136223846793005) + 1442695040888963407) = lc (drawn s.pend k (tn + 1)) seed := by
              rw [hdn]
              show _ = lcg _
              unfold lcg
              rw [wrap_u64_eq, wrap_u64_eq]
              omega
            have hzr := lc_range s0 (drawn s.pend k (tn + 1))
            have hdr : drawn s.pend k (tn + 1) = (k - 2) * s.pend + tn + 1 := by unfold drawn; rw [if_neg (by omega)]; omega
            rw [if_neg (by omega), if_neg (by omega), ← hdr] at hget
            generalize hZ : lc (drawn s.pend k (tn + 1)) seed = Z at *
            refine JoinN.mk ?_
            simp (disch := omega)
            refine JoinN.mk ?_
            simp (disch := omega) [Hp_shr_u64, hlc]
            have e4 : Ext g3 (g3.push (.cells #[.int .i64 (Z / 9223372036854775808)] 3)) := (by repeat' (first | (with_reducible exact Ext.refl _) | (with_reducible assumption) | (with_reducible refine push_ext ?_) | (with_reducible refine hset_ext ?_ ?_) | (with_reducible refine Ext.trans ?_ (by assumption)) | omega | (simp; done) | (simp; omega) | (refine Ext.size ?_) | (refine Nat.le_succ_of_le (Ext.size ?_))))
            refine Hp_appendG (e := 3) (s := 1) (by_ := 8) (n := tn) (k := 1) (news := [.int .i64 (Z / 9223372036854775808)]) (by kernel_rfl) (by kernel_rfl) (o3.ext e4) (by rw [List.length_map, List.length_take]; omega) (by omega) (Src_new (vs := [.int .i64 (Z / 9223372036854775808)]) rfl) (by simp [one]) (by omega) (by omega) fun v5 h5 o5 m5 f5 _ => ?_
            have z4 := e4.size
            have e5 : Ext gB h5 := m5.ext_from (e3.trans e4) (fun b hb e => by have := lo3 b e; omega)
            have f5' : ∀ b, blkG v5 = some b → gB.size ≤ b := fun b hb => (f5 b hb).elim (lo3 b) (fun e => by have := Nat.le_trans z4 e; omega)
            simp (disch := omega)
            refine hY (tn + 1, v5) _ _ _ _ (by rw [hZ]) rfl (by simp) ⟨hip, e5, ?_, f5'⟩ (by dsimp only; omega)
            rw [htk, hget]
            exact o5
        · obtain rfl : tn = s.pend := by omega
          rw [List.take_of_length_le (by omega)] at o3
          have wit := Its.own o3 (by rw [hWl]; omega) (bits_i64 hbt)
          have ws3 := wsB.ext e3
          have hkb : k < bs.length := by omega
          have b3 := ws3.blk k hkb
          have rit := b3.its (by rw [hWl]; omega) (bits_i64 hbt)
          rw [hWl] at rit
          obtain ⟨ob, oo, rfl⟩ := hone (fun e => by rw [List.map_eq_nil_iff] at e; rw [e] at hkb; simp at hkb)
          have rc : hcell g3 (elt ⟨ob, oo, none⟩ k) = some (.slice (some ⟨bs[k], 0, none⟩) s.pend s.pend) := by
            rw [(ws3.own.cell (i := k) (by rw [List.length_map]; exact hkb)).1, List.getElem_map]; rfl
          simp (disch := omega) [rc]
          refine same7_c rit wit ?_
          rw [decide_eq_true rfl]
          simp (disch := omega)
          exact hX (k + 1) _ _ _ (by rw [drawn_next]) (by simp) ⟨hkN, e3⟩ (by omega)
      · simp (disch := omega)
        have EB := EB.trans eg
        have hdA := (eg.block _ (by omega)).trans hdA
        have hdB := (eg.block _ hlB).trans hdB
        have hlB := get_some_lt hdB
        refine known7_c fun h20 e20 => ?_
        have E20 := (I2.ext).trans (EB.trans e20)
        have rz := (E20.block h.size hrl).trans r0
        have cz := cellOf (i := 0) rz rfl
        have fz := frzOf (i := 0) rz
        have hz20 := E20.size
        have dA := (e20.block _ (by omega)).trans hdA
        have dB := (e20.block _ hlB).trans hdB
        have zI := (I2.ext).size
        simp (disch := omega) [cz, fz]
        refine RetD_two ((get_hset' (by omega)).trans dB) ((get_hset' (by omega)).trans dA) (by omega) fun h21 m21 => ?_
        have rz9 := (m21.block h.size (by rw [hset_size]; exact get_some_lt rz) (by omega)).trans (obj_set (i := 0) (v := .bool true) rz)
        have cz9 := cellOf (i := 0) rz9 rfl
        simp (disch := omega) [cz9]
        exact H _ (m21.ext_from (hset_ext (e0.trans E20) (by simp)) (fun b hb e => by omega))
end Go.Proofs.Ytdmcaaojapcbcaa
namespace Go.Proofs.Ytdmcaaojapcbcaa.stopsSome
open Go.ChangeShapes Go.WideShapes Go.ChangeAt Go.RowKit Go.Joins Go.Vc

theorem own : ownKnob Try.prog.godebug = none := by kernel_rfl
theorem laidOut : laidOutB Try.prog = true := by kernel_rfl

set_option maxRecDepth 100000 in
set_option maxHeartbeats 1000000 in
theorem lifted (os : Os) (started : os.Started) (H : Type) (enc : TypeId × Value → H) :
    ReturnsInHanded {} Try.checked os 8 .any (Rows.stopsSomeSpec.pre6 enc Try.prog Try.f8 Rows.stopsSomeRow.domain false) (Rows.stopsSomeSpec.post enc Try.prog Try.f8 false true false false) := by
  refine returnsInHanded_of_change (C := Try.checked) own started (by kernel_rfl) Try.func8
    (ChangeSpec.witness6 (enc := enc) (C := Try.checked) false ⟨#[], #[.slice none 0 0, .int .u64 0, .int .i64 0], []⟩ 8 (by kernel_rfl) (by kernel_rfl) (by kernel_rfl) (by kernel_rfl)) ?_
  intro W base args ds gs before hval0 hW hcnd _
  have hval : ∀ (j : Nat) t v, Try.f8.params[j]? = some t → args[j]? = some v → Value.okWide Try.prog W .any base t v := hval0
  have hW' := hW
  obtain ⟨p, q, hA0, hV, rfl, hfz, hnd⟩ := hW
  have hA : DataW.TrodAll enc Try.prog W 0 (fun _ => true) true Try.f8.params.toList args.toList ds p := hA0
  rw [Try.params8] at hA hval
  obtain ⟨v0, vs0, d0, ds0, p0, q0, hargs, rfl, rfl, h0, r0⟩ := trodAll_cons hA
  obtain ⟨v1, vs1, d1, ds1, p1, q1, rfl, rfl, rfl, h1, r1⟩ := trodAll_cons r0
  obtain ⟨v2, vs2, d2, ds2, p2, q2, rfl, rfl, rfl, h2, r2⟩ := trodAll_cons r1
  obtain ⟨rfl, rfl, rfl⟩ := trodAll_nil r2
  obtain rfl : args = #[v0, v1, v2] := by cases args; simp_all
  obtain ⟨xs, hxs⟩ := open_puts (hval 0 22 v0 rfl rfl) h0
  obtain ⟨sd, hsd, hs0⟩ := (Laid.top (hval 1 82 v1 rfl rfl) h1 (by kernel_rfl)).int (k := .u64) (by kernel_rfl)
  obtain rfl : v1 = .int .u64 sd := by simpa using hsd
  obtain ⟨n, hn, hn0⟩ := (Laid.top (hval 2 3 v2 rfl rfl) h2 (by kernel_rfl)).int (k := .i64) (by kernel_rfl)
  obtain rfl : v2 = .int .i64 n := by simpa using hn
  have hi := i64_of hn0
  have hsr : 0 ≤ sd ∧ sd < 18446744073709551616 := by
    have h1 : IntKind.u64.min = 0 := by decide
    have h2 : IntKind.u64.max = 18446744073709551615 := by decide
    omega
  refine ((StopsSome_c (h := W.heap) hxs hsr hi.1 hi.2 (K := fun v h' => v = .bool true ∧ Ext W.heap h') (fun h' e => ⟨rfl, e⟩)).out W rfl).mono fun e W' ⟨v, he, hs, hv, hx⟩ => ?_
  exact ⟨v, he, hv ▸ law_post laidOut (by kernel_rfl) rfl (tb := 4) (by kernel_rfl) (by kernel_rfl) hW' (fun hg => by rw [hg]; rfl) (below_of hs hx)⟩

theorem proved : Rows.StopsSomeSaid :=
  OpenClaim.holds_of_wide 8 Try.f8 rfl rfl rfl rfl rfl rfl rfl ⟨rfl, rfl, rfl, rfl, rfl⟩ rfl rfl rfl rfl rfl (by kernel_rfl) Try.func8 (by kernel_rfl)
    (of_decide_eq_true (by kernel_rfl)) (by unfold Func.isWrapper; first | (rw [if_pos (by decide +kernel)]; kernel_rfl) | (rw [if_neg (by decide +kernel)]; exact ⟨rfl, rfl⟩))
    (fun os started H enc _ => lifted os started H enc)
end Go.Proofs.Ytdmcaaojapcbcaa.stopsSome
