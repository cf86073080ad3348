/- What is proved: the law palimpsestlaw07.StopsNumbers returns true for every input, and its arguments read as they did. No conditions. -/
import Derived.Test.YtdmcaaojapcbcaaRows
import Derived.Test.YtdmcaaojapcbcaaSptA
set_option linter.unusedSimpArgs false
set_option linter.unusedVariables false
namespace Go.Proofs.Ytdmcaaojapcbcaa
open Go.Vc
variable {K : Value → Heap → Prop} {h : Heap}

theorem Its.own {v : Value} {l : List Int} (o : OwnG 3 1 h v (l.map inV)) (hl : l.length < 9223372036854775808) (ho : ∀ n ∈ l, -9223372036854775808 ≤ n ∧ n < 9223372036854775808) : Its h v l := by
  obtain ⟨a, n, c, rfl, h1, h2, h3⟩ := o.form
  obtain rfl : n = l.length := by simpa using h1.symm
  exact ⟨o.src, ⟨_, _, rfl, h2⟩, hl, ho⟩
theorem bad_snoc {ks : List Int} {i : Nat} (hi : i < ks.length) : badK (ks.take (i + 1)) = (badK (ks.take i) || decide (ks[i] < 0)) := by
  unfold badK
  rw [List.take_succ_eq_append_getElem hi, List.any_append]; simp

theorem bad_bits (p : Nat) (n : Int) : badK (bitsW p n) = false := by
  unfold badK
  rw [List.any_eq_false]
  intro x hx
  have := bitsW_bit p n x hx
  simp; omega
theorem bits_pos (p : Nat) (n : Int) : ∀ x ∈ bitsW p n, 0 ≤ x := fun x hx => by have := bitsW_bit p n x hx; omega
set_option maxHeartbeats 16000000 in
theorem StopsNumbers_c {w u : Value} {n : Int} {xs : List Pw} {ks : List Int} (hs : Pws h w xs) (hk : Its h u ks) (n0 : -9223372036854775808 ≤ n) (n1 : n < 9223372036854775808) (H : ∀ h', Ext h h' → K (.bool true) h') : CallsH Try.prog 3 #[w, u, .int .i64 n] h K ⟨⟩ := by
  refine n3_calls ?_
  unfold n3
  obtain ⟨wa, wc, rfl⟩ := hs.form
  obtain ⟨ua, uc, rfl, huc⟩ := hk.form
  have l2 := hs.len
  have l3 := hk.few
  refine vast7_c hs ?_ (fun hn hlim => ?_)
  · simp (disch := omega)
    exact known7_c fun h2 e2 => H h2 e2
  simp (disch := omega)
  by_cases hb1 : 300 < ks.length
  · simp (disch := omega)
    exact known7_c fun h2 e2 => H h2 e2
  simp (disch := omega)
  refine both_c hs hn hlim fun h1 p s pr r I al _ => ?_
  have hpd := I.few
  simp (disch := omega)
  refine rPending_c I.rs ?_
  rw [al.pend]
  refine loopX2 (α := Nat × Bool) (fun a => .bool a.2) (fun a => .int .i64 a.1) (fun a g => a.1 ≤ ks.length ∧ h1 = g ∧ a.2 = badK (ks.take a.1)) (fun a => ks.length - a.1) (0, false) ⟨rfl, rfl⟩ ⟨Nat.zero_le _, rfl, rfl⟩ ?_
  rintro ⟨i, bd⟩ g ⟨hi, rfl, hbd⟩ X hX
  dsimp only at hi hbd hX ⊢
  by_cases hik : i < ks.length
  · have hsn := bad_snoc hik
    obtain ⟨ad, c', hv, hc', hseg⟩ := (hk.ext I.ext).seg (fun e => by rw [e] at hik; simp at hik)
    cases hv
    have r1 : hcell h1 (elt ad i) = some (.int .i64 ks[i]) := by rw [hseg i (by simpa using hik)]; simp [inV]
    rw [← hbd] at hsn
    cases bd with
    | true =>
      rw [Bool.true_or] at hsn
      simp (disch := omega)
      exact hX (i + 1, true) _ _ _ rfl (by simp) ⟨hik, rfl, hsn.symm⟩ (by dsimp only; omega)
    | false =>
      rw [Bool.false_or] at hsn
      by_cases hneg : ks[i] < 0
      · rw [decide_eq_true hneg] at hsn
        simp (disch := omega) [r1, hneg]
        exact hX (i + 1, true) _ _ _ rfl (by simp) ⟨hik, rfl, hsn.symm⟩ (by dsimp only; omega)
      · rw [decide_eq_false hneg] at hsn
        simp (disch := omega) [r1, hneg]
        exact hX (i + 1, false) _ _ _ rfl (by simp) ⟨hik, rfl, hsn.symm⟩ (by dsimp only; omega)
  obtain rfl : i = ks.length := by omega
  rw [List.take_length] at hbd
  clear hX
  simp (disch := omega)
  have kit : Its h1 (.slice ua ks.length uc) ks := hk.ext I.ext
  refine Hp_appendG (e := 3) (s := 1) (by_ := 8) (n := 0) (k := ks.length) (by kernel_rfl) (by kernel_rfl) OwnG.nil rfl (by omega) kit.src (fun u hu => by
    obtain ⟨x, -, rfl⟩ := List.mem_map.1 hu
    rfl) (by omega) (by omega) fun v1 h3 o3 m3 f3 _ => ?_
  have e3 : Ext h1 h3 := m3.ext_from (.refl _) (fun b hb e => by cases e)
  rw [List.nil_append] at o3
  have f3' : ∀ b, blkG v1 = some b → h1.size ≤ b := fun b hb => (f3 b hb).elim (fun e => by cases e) id
  obtain ⟨va, vn, vc, rfl, hvn, -, -⟩ := o3.form
  obtain rfl : vn = ks.length := by simpa using hvn.symm
  simp (disch := omega)
  have e4 : Ext h3 (h3.push (.cells #[.int .i64 4242] 3)) := (by repeat' (first | (with_reducible exact Ext.refl _) | (with_reducible assumption) | (with_reducible refine push_ext ?_) | (with_reducible refine hset_ext ?_ ?_) | (with_reducible refine Ext.trans ?_ (by assumption)) | omega | (simp; done) | (simp; omega) | (refine Ext.size ?_) | (refine Nat.le_succ_of_le (Ext.size ?_))))
  refine Hp_appendG (e := 3) (s := 1) (by_ := 8) (n := ks.length) (k := 1) (news := [.int .i64 4242]) (by kernel_rfl) (by kernel_rfl) (o3.ext e4) (by simp) (by omega) (Src_new (vs := [.int .i64 4242]) rfl) (by simp [one]) (by omega) (by omega) fun v2 h5 o5 m5 f5 _ => ?_
  have z3 := e3.size
  have e5 : Ext h1 h5 := m5.ext_from (e3.trans e4) (fun b hb e => by have := f3' b e; omega)
  obtain ⟨xa, xn, xc, rfl, hxn, hxc, hxne⟩ := o5.form
  obtain rfl : xn = ks.length + 1 := by simpa using hxn.symm
  simp (disch := omega) [Hp_slgNH (P := Try.prog) (t := 23) (s := 1) (by kernel_rfl)]
  have om := o5.cut (hi := ks.length) (mx := xc) (by omega) (Nat.le_refl _) (by omega)
  have om' : OwnG 3 1 h5 (.slice xa ks.length xc) (ks.map inV) := by
    have : (ks.map inV ++ [Value.int .i64 4242]).take (ks.length * 1) = ks.map inV := by simp
    rw [this] at om; exact om
  have km : Its h5 (.slice xa ks.length xc) ks := Its.own om' l3 hk.ok
  obtain ⟨xb, xo, rfl⟩ := hxne (by simp)
  have r42 : ∀ g, Ext h5 g → hcell g (elt ⟨xb, xo, none⟩ ks.length) = some (.int .i64 4242) := fun g e => by
    have := ((o5.ext e).cell (i := ks.length) (by simp)).1
    rw [this]; simp
  have I5 := I.of_ext e5 (Nat.le_refl _) (Nat.le_refl _)
  refine Count_st I5.st fun h6 e6 => ?_
  have I6 := I5.of_ext e6 (Nat.le_refl _) (Nat.le_refl _)
  cases bd with
  | true =>
    have nb : badK ks ≠ false := by rw [← hbd]; decide
    by_cases hp : 62 < s.pend
    · rw [if_pos hp]
      simp (disch := omega)
      refine Plain_st I6.st hpd (km.ext e6) (fun h7 e7 _ => ?_) (fun h7 w7 e7 hb7 _ => absurd hb7 nb)
      have I7 := I6.of_ext e7 (Nat.le_refl _) (Nat.le_refl _)
      simp (disch := omega)
      refine Number_st I7.st hpd ((km.ext e6).ext e7) (fun h8 e8 _ => ?_) (fun h8 _ hb7 => absurd hb7 nb) (fun h8 _ hb7 => absurd hb7 nb)
      have I8 := I7.of_ext e8 (Nat.le_refl _) (Nat.le_refl _)
      simp (disch := omega)
      refine At_st I8.st hpd n0 n1 (fun h9 e e9 he => ?_) (fun h9 w9 e9 _ hp9 => by omega)
      have I9 := I8.of_ext e9 (Nat.le_refl _) (Nat.le_refl _)
      have E59 := ((e6.trans e7).trans e8).trans e9
      rcases he with ⟨hn, rfl⟩ | ⟨hn, -, rfl⟩ | ⟨-, he, -⟩
      · simp (disch := omega)
        refine same7_c (km.ext E59) ((kit.ext e5).ext E59) ?_
        rw [decide_eq_true rfl]
        have r42' := r42 _ E59
        simp (disch := omega) [Hp_slgNH (P := Try.prog) (t := 23) (s := 1) (by kernel_rfl), r42', hn]
        refine known7_c fun h20 e20 => ?_
        try simp (disch := omega)
        exact H _ (I9.ext.trans e20)
      · simp (disch := omega)
        refine same7_c (km.ext E59) ((kit.ext e5).ext E59) ?_
        rw [decide_eq_true rfl]
        have r42' := r42 _ E59
        simp (disch := omega) [Hp_slgNH (P := Try.prog) (t := 23) (s := 1) (by kernel_rfl), r42']
        refine known7_c fun h20 e20 => ?_
        try simp (disch := omega)
        exact H _ (I9.ext.trans e20)
      · omega
    · rw [if_neg hp]
      have hW0 : 0 < 2 ^ s.pend := Nat.pow_pos (by omega)
      have hWl : 2 ^ s.pend ≤ 4611686018427387904 := Nat.le_trans (Nat.pow_le_pow_right (by omega) (show s.pend ≤ 62 by omega)) (by decide)
      obtain ⟨W, hW⟩ : ∃ W, 2 ^ s.pend = W := ⟨_, rfl⟩
      rw [hW] at hW0 hWl ⊢
      simp (disch := omega)
      refine Plain_st I6.st hpd (km.ext e6) (fun h7 e7 _ => ?_) (fun h7 w7 e7 hb7 _ => absurd hb7 nb)
      have I7 := I6.of_ext e7 (Nat.le_refl _) (Nat.le_refl _)
      simp (disch := omega)
      refine Number_st I7.st hpd ((km.ext e6).ext e7) (fun h8 e8 _ => ?_) (fun h8 _ hb7 => absurd hb7 nb) (fun h8 _ hb7 => absurd hb7 nb)
      have I8 := I7.of_ext e8 (Nat.le_refl _) (Nat.le_refl _)
      simp (disch := omega)
      refine At_st I8.st hpd n0 n1 (fun h9 e e9 he => ?_) (fun h9 w9 e9 hn9 _ hlt9 hw9 => ?_)
      · have I9 := I8.of_ext e9 (Nat.le_refl _) (Nat.le_refl _)
        have E59 := ((e6.trans e7).trans e8).trans e9
        rcases he with ⟨hn, rfl⟩ | ⟨-, he, -⟩ | ⟨hn, -, hge, rfl⟩
        · simp (disch := omega)
          refine same7_c (km.ext E59) ((kit.ext e5).ext E59) ?_
          rw [decide_eq_true rfl]
          have r42' := r42 _ E59
          simp (disch := omega) [Hp_slgNH (P := Try.prog) (t := 23) (s := 1) (by kernel_rfl), r42', hn]
          rw [Hp_shlW (b := s.pend) (w := W) hW (by omega) (by omega) (by omega)]
          simp (disch := omega) [hn]
          refine JoinN.mk ?_
          simp (disch := omega) [hn]
          refine known7_c fun h20 e20 => ?_
          try simp (disch := omega)
          exact H _ (I9.ext.trans e20)
        · omega
        · rw [hW] at hge
          simp (disch := omega)
          refine same7_c (km.ext E59) ((kit.ext e5).ext E59) ?_
          rw [decide_eq_true rfl]
          have r42' := r42 _ E59
          simp (disch := omega) [Hp_slgNH (P := Try.prog) (t := 23) (s := 1) (by kernel_rfl), r42']
          rw [Hp_shlW (b := s.pend) (w := W) hW (by omega) (by omega) (by omega)]
          simp (disch := omega)
          refine JoinN.mk ?_
          simp (disch := omega)
          refine known7_c fun h20 e20 => ?_
          try simp (disch := omega)
          exact H _ (I9.ext.trans e20)
      · rw [hW] at hlt9
        have I9 := I8.of_ext e9 (Nat.le_refl _) (Nat.le_refl _)
        have E59 := ((e6.trans e7).trans e8).trans e9
        obtain ⟨ta, tc, rfl, -⟩ := hw9.form
        rw [bitsW_len] at *
        simp (disch := omega)
        refine same7_c (km.ext E59) ((kit.ext e5).ext E59) ?_
        rw [decide_eq_true rfl]
        have r42' := r42 _ E59
        simp (disch := omega) [Hp_slgNH (P := Try.prog) (t := 23) (s := 1) (by kernel_rfl), r42']
        rw [Hp_shlW (b := s.pend) (w := W) hW (by omega) (by omega) (by omega)]
        simp (disch := omega)
        have nb2 : badK (bitsW s.pend n) ≠ true := by rw [bad_bits]; decide
        refine Number_st I9.st hpd hw9 (fun h10 _ hb7 => absurd hb7 nb2) (fun h10 _ _ hb7 => by omega) (fun h10 e10 _ _ => ?_)
        have I10 := I9.of_ext e10 (Nat.le_refl _) (Nat.le_refl _)
        rw [bitsW_plain, bitsW_num s.pend n hn9 (by rw [hW]; exact hlt9)]
        simp (disch := omega)
        refine plain7_c hpd (hw9.ext e10) (bits_pos _ _) fun h11 w11 e11 hw11 => ?_
        have I11 := I10.of_ext e11 (Nat.le_refl _) (Nat.le_refl _)
        rw [bitsW_plain] at hw11
        simp (disch := omega)
        refine same7_c ((hw9.ext e10).ext e11) hw11 ?_
        rw [decide_eq_true rfl]
        simp (disch := omega)
        refine known7_c fun h20 e20 => ?_
        try simp (disch := omega)
        exact H _ (I11.ext.trans e20)
  | false =>
    have nb : badK ks ≠ true := by rw [← hbd]; decide
    have hpos : ∀ k ∈ ks, 0 ≤ k := fun k hkk => by
      have h9 : badK ks = false := hbd.symm
      unfold badK at h9
      have := List.any_eq_false.1 h9 k hkk
      simp at this; exact this
    by_cases hp : 62 < s.pend
    · rw [if_pos hp]
      simp (disch := omega)
      refine Plain_st I6.st hpd (km.ext e6) (fun h7 _ hb7 => absurd hb7 nb) (fun h7 w7 e7 hb7 hw7 => ?_)
      have I7 := I6.of_ext e7 (Nat.le_refl _) (Nat.le_refl _)
      obtain ⟨pa, pc, rfl, -⟩ := hw7.form
      rw [plainW_len] at *
      simp (disch := omega)
      refine Number_st I7.st hpd ((km.ext e6).ext e7) (fun h8 _ hb7 => absurd hb7 nb) (fun h8 e8 _ _ => ?_) (fun h8 _ _ hb7 => by omega)
      have I8 := I7.of_ext e8 (Nat.le_refl _) (Nat.le_refl _)
      simp (disch := omega)
      refine At_st I8.st hpd n0 n1 (fun h9 e e9 he => ?_) (fun h9 w9 e9 _ hp9 => by omega)
      have I9 := I8.of_ext e9 (Nat.le_refl _) (Nat.le_refl _)
      have E59 := ((e6.trans e7).trans e8).trans e9
      rcases he with ⟨hn, rfl⟩ | ⟨hn, -, rfl⟩ | ⟨-, he, -⟩
      · simp (disch := omega)
        refine same7_c (km.ext E59) ((kit.ext e5).ext E59) ?_
        rw [decide_eq_true rfl]
        have r42' := r42 _ E59
        simp (disch := omega) [Hp_slgNH (P := Try.prog) (t := 23) (s := 1) (by kernel_rfl), r42']
        refine plain7_c hpd ((kit.ext e5).ext E59) hpos fun h11 w11 e11 hw11 => ?_
        have I11 := I9.of_ext e11 (Nat.le_refl _) (Nat.le_refl _)
        simp (disch := omega)
        refine same7_c (((hw7.ext e8).ext e9).ext e11) hw11 ?_
        rw [decide_eq_true rfl]
        simp (disch := omega) [hn]
        refine known7_c fun h20 e20 => ?_
        try simp (disch := omega)
        exact H _ (I11.ext.trans e20)
      · simp (disch := omega)
        refine same7_c (km.ext E59) ((kit.ext e5).ext E59) ?_
        rw [decide_eq_true rfl]
        have r42' := r42 _ E59
        simp (disch := omega) [Hp_slgNH (P := Try.prog) (t := 23) (s := 1) (by kernel_rfl), r42']
        refine plain7_c hpd ((kit.ext e5).ext E59) hpos fun h11 w11 e11 hw11 => ?_
        have I11 := I9.of_ext e11 (Nat.le_refl _) (Nat.le_refl _)
        simp (disch := omega)
        refine same7_c (((hw7.ext e8).ext e9).ext e11) hw11 ?_
        rw [decide_eq_true rfl]
        simp (disch := omega)
        refine known7_c fun h20 e20 => ?_
        try simp (disch := omega)
        exact H _ (I11.ext.trans e20)
      · omega
    · rw [if_neg hp]
      have hW0 : 0 < 2 ^ s.pend := Nat.pow_pos (by omega)
      have hWl : 2 ^ s.pend ≤ 4611686018427387904 := Nat.le_trans (Nat.pow_le_pow_right (by omega) (show s.pend ≤ 62 by omega)) (by decide)
      obtain ⟨W, hW⟩ : ∃ W, 2 ^ s.pend = W := ⟨_, rfl⟩
      have hnum := numW_lt (plainW s.pend ks) plainW_bit
      rw [plainW_len, hW] at hnum
      rw [hW] at hW0 hWl ⊢
      simp (disch := omega)
      refine Plain_st I6.st hpd (km.ext e6) (fun h7 _ hb7 => absurd hb7 nb) (fun h7 w7 e7 hb7 hw7 => ?_)
      have I7 := I6.of_ext e7 (Nat.le_refl _) (Nat.le_refl _)
      obtain ⟨pa, pc, rfl, -⟩ := hw7.form
      rw [plainW_len] at hw7 ⊢
      simp (disch := omega)
      refine Number_st I7.st hpd ((km.ext e6).ext e7) (fun h8 _ hb7 => absurd hb7 nb) (fun h8 _ _ hb7 => by omega) (fun h8 e8 _ _ => ?_)
      have I8 := I7.of_ext e8 (Nat.le_refl _) (Nat.le_refl _)
      generalize numW (plainW s.pend ks) = N at hnum
      simp (disch := omega)
      refine At_st I8.st hpd n0 n1 (fun h9 e e9 he => ?_) (fun h9 w9 e9 hn9 _ hlt9 hw9 => ?_)
      · have I9 := I8.of_ext e9 (Nat.le_refl _) (Nat.le_refl _)
        have E59 := ((e6.trans e7).trans e8).trans e9
        rcases he with ⟨hn, rfl⟩ | ⟨-, he, -⟩ | ⟨hn, -, hge, rfl⟩
        · simp (disch := omega)
          refine same7_c (km.ext E59) ((kit.ext e5).ext E59) ?_
          rw [decide_eq_true rfl]
          have r42' := r42 _ E59
          simp (disch := omega) [Hp_slgNH (P := Try.prog) (t := 23) (s := 1) (by kernel_rfl), r42']
          refine plain7_c hpd ((kit.ext e5).ext E59) hpos fun h11 w11 e11 hw11 => ?_
          have I11 := I9.of_ext e11 (Nat.le_refl _) (Nat.le_refl _)
          simp (disch := omega)
          refine same7_c (((hw7.ext e8).ext e9).ext e11) hw11 ?_
          rw [decide_eq_true rfl]
          simp (disch := omega) [hn]
          rw [Hp_shlW (b := s.pend) (w := W) hW (by omega) (by omega) (by omega)]
          simp (disch := omega) [hn]
          refine JoinN.mk ?_
          simp (disch := omega) [hn]
          refine known7_c fun h20 e20 => ?_
          try simp (disch := omega)
          exact H _ (I11.ext.trans e20)
        · omega
        · rw [hW] at hge
          simp (disch := omega)
          refine same7_c (km.ext E59) ((kit.ext e5).ext E59) ?_
          rw [decide_eq_true rfl]
          have r42' := r42 _ E59
          simp (disch := omega) [Hp_slgNH (P := Try.prog) (t := 23) (s := 1) (by kernel_rfl), r42']
          refine plain7_c hpd ((kit.ext e5).ext E59) hpos fun h11 w11 e11 hw11 => ?_
          have I11 := I9.of_ext e11 (Nat.le_refl _) (Nat.le_refl _)
          simp (disch := omega)
          refine same7_c (((hw7.ext e8).ext e9).ext e11) hw11 ?_
          rw [decide_eq_true rfl]
          simp (disch := omega)
          rw [Hp_shlW (b := s.pend) (w := W) hW (by omega) (by omega) (by omega)]
          simp (disch := omega)
          refine JoinN.mk ?_
          simp (disch := omega)
          refine known7_c fun h20 e20 => ?_
          try simp (disch := omega)
          exact H _ (I11.ext.trans e20)
      · rw [hW] at hlt9
        have I9 := I8.of_ext e9 (Nat.le_refl _) (Nat.le_refl _)
        have E59 := ((e6.trans e7).trans e8).trans e9
        obtain ⟨ta, tc, rfl, -⟩ := hw9.form
        rw [bitsW_len] at hw9 ⊢
        simp (disch := omega)
        refine same7_c (km.ext E59) ((kit.ext e5).ext E59) ?_
        rw [decide_eq_true rfl]
        have r42' := r42 _ E59
        simp (disch := omega) [Hp_slgNH (P := Try.prog) (t := 23) (s := 1) (by kernel_rfl), r42']
        refine plain7_c hpd ((kit.ext e5).ext E59) hpos fun h11 w11 e11 hw11 => ?_
        have I11 := I9.of_ext e11 (Nat.le_refl _) (Nat.le_refl _)
        simp (disch := omega)
        refine same7_c (((hw7.ext e8).ext e9).ext e11) hw11 ?_
        rw [decide_eq_true rfl]
        replace hw9 := hw9.ext e11
        replace I9 := I11
        simp (disch := omega)
        rw [Hp_shlW (b := s.pend) (w := W) hW (by omega) (by omega) (by omega)]
        simp (disch := omega)
        clear hw11 I11 e11
        have nb2 : badK (bitsW s.pend n) ≠ true := by rw [bad_bits]; decide
        refine Number_st I9.st hpd hw9 (fun h10 _ hb7 => absurd hb7 nb2) (fun h10 _ _ hb7 => by omega) (fun h10 e10 _ _ => ?_)
        have I10 := I9.of_ext e10 (Nat.le_refl _) (Nat.le_refl _)
        rw [bitsW_plain, bitsW_num s.pend n hn9 (by rw [hW]; exact hlt9)]
        simp (disch := omega)
        refine plain7_c hpd (hw9.ext e10) (bits_pos _ _) fun h11 w11 e11 hw11 => ?_
        have I11 := I10.of_ext e11 (Nat.le_refl _) (Nat.le_refl _)
        rw [bitsW_plain] at hw11
        simp (disch := omega)
        refine same7_c ((hw9.ext e10).ext e11) hw11 ?_
        rw [decide_eq_true rfl]
        simp (disch := omega)
        refine known7_c fun h20 e20 => ?_
        try simp (disch := omega)
        exact H _ (I11.ext.trans e20)
end Go.Proofs.Ytdmcaaojapcbcaa
namespace Go.Proofs.Ytdmcaaojapcbcaa.stopsNumbers
open Go.ChangeShapes Go.WideShapes Go.ChangeAt Go.RowKit Go.Joins Go.Vc

theorem own : ownKnob Try.prog.godebug = none := by kernel_rfl
theorem laidOut : laidOutB Try.prog = true := by kernel_rfl

set_option maxRecDepth 100000 in
set_option maxHeartbeats 1000000 in
theorem lifted (os : Os) (started : os.Started) (H : Type) (enc : TypeId × Value → H) :
    ReturnsInHanded {} Try.checked os 3 .any (Rows.stopsNumbersSpec.pre6 enc Try.prog Try.f3 Rows.stopsNumbersRow.domain false) (Rows.stopsNumbersSpec.post enc Try.prog Try.f3 false true false false) := by
  refine returnsInHanded_of_change (C := Try.checked) own started (by kernel_rfl) Try.func3
    (ChangeSpec.witness6 (enc := enc) (C := Try.checked) false ⟨#[], #[.slice none 0 0, .slice none 0 0, .int .i64 0], []⟩ 8 (by kernel_rfl) (by kernel_rfl) (by kernel_rfl) (by kernel_rfl)) ?_
  intro W base args ds gs before hval0 hW hcnd _
  have hval : ∀ (j : Nat) t v, Try.f3.params[j]? = some t → args[j]? = some v → Value.okWide Try.prog W .any base t v := hval0
  have hW' := hW
  obtain ⟨p, q, hA0, hV, rfl, hfz, hnd⟩ := hW
  have hA : DataW.TrodAll enc Try.prog W 0 (fun _ => true) true Try.f3.params.toList args.toList ds p := hA0
  rw [Try.params3] at hA hval
  obtain ⟨v0, vs0, d0, ds0, p0, q0, hargs, rfl, rfl, h0, r0⟩ := trodAll_cons hA
  obtain ⟨v1, vs1, d1, ds1, p1, q1, rfl, rfl, rfl, h1, r1⟩ := trodAll_cons r0
  obtain ⟨v2, vs2, d2, ds2, p2, q2, rfl, rfl, rfl, h2, r2⟩ := trodAll_cons r1
  obtain ⟨rfl, rfl, rfl⟩ := trodAll_nil r2
  obtain rfl : args = #[v0, v1, v2] := by cases args; simp_all
  obtain ⟨xs, hxs⟩ := open_puts (hval 0 22 v0 rfl rfl) h0
  obtain ⟨ks, hks⟩ := open_its (hval 1 23 v1 rfl rfl) h1
  obtain ⟨n, hn, hn0⟩ := (Laid.top (hval 2 2 v2 rfl rfl) h2 (by kernel_rfl)).int (k := .i64) (by kernel_rfl)
  obtain rfl : v2 = .int .i64 n := by simpa using hn
  have hi := i64_of hn0
  refine ((StopsNumbers_c (h := W.heap) hxs hks hi.1 hi.2 (K := fun v h' => v = .bool true ∧ Ext W.heap h') (fun h' e => ⟨rfl, e⟩)).out W rfl).mono fun e W' ⟨v, he, hs, hv, hx⟩ => ?_
  exact ⟨v, he, hv ▸ law_post laidOut (by kernel_rfl) rfl (tb := 4) (by kernel_rfl) (by kernel_rfl) hW' (fun hg => by rw [hg]; rfl) (below_of hs hx)⟩

theorem proved : Rows.StopsNumbersSaid :=
  OpenClaim.holds_of_wide 3 Try.f3 rfl rfl rfl rfl rfl rfl rfl ⟨rfl, rfl, rfl, rfl, rfl⟩ rfl rfl rfl rfl rfl (by kernel_rfl) Try.func3 (by kernel_rfl)
    (of_decide_eq_true (by kernel_rfl)) (by unfold Func.isWrapper; first | (rw [if_pos (by decide +kernel)]; kernel_rfl) | (rw [if_neg (by decide +kernel)]; exact ⟨rfl, rfl⟩))
    (fun os started H enc _ => lifted os started H enc)
end Go.Proofs.Ytdmcaaojapcbcaa.stopsNumbers
