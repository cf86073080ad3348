/- What is proved: the law palimpsestlaw09.EntryTables returns true for every input, and its arguments read as they did. No conditions. -/
import Derived.Test.YtmppolccfjfoaaaRows
import Derived.Test.YtmppolccfjfoaaaOpen
import Derived.Test.YtmppolccfjfoaaaEntry6
set_option linter.unusedSimpArgs false
set_option linter.unusedVariables false
namespace Go.Proofs.Ytmppolccfjfoaaa
open Go.Vc
variable {K : Value → Heap → Prop} {h : Heap}

theorem getE_over {l : List UInt8} {i k p n b : Int} (hE : putE l.length i k p n b = 0) : getE (over l (8 * i.toNat) (leB 8 (wordE k p n).toNat)) i b = ((k, p, n), 0) := by
  obtain ⟨hm, h0, h1⟩ := putE_zero hE
  have bd := may_bd hm
  have wd := wordE_inv hm rfl
  have hlen : (over l (8 * i.toNat) (leB 8 (wordE k p n).toNat)).length = l.length := over_length (by simp; omega)
  unfold getE
  rw [if_neg (by simp; omega), hlen, if_neg (by omega)]
  have h8 : ((over l (8 * i.toNat) (leB 8 (wordE k p n).toNat)).drop (8 * i.toNat)).take 8 = leB 8 (wordE k p n).toNat := by
    unfold over
    rw [List.append_assoc, List.drop_append, List.drop_eq_nil_of_le (by simp; omega)]
    simp only [List.length_take, Nat.min_eq_left (show 8 * i.toNat ≤ l.length by omega), Nat.sub_self, List.drop_zero, List.nil_append]
    rw [List.take_append_of_le_length (by simp), List.take_of_length_le (by simp)]
  rw [h8, leN_leB, show 256 ^ 8 = 18446744073709551616 by decide, Nat.mod_eq_of_lt (by omega)]
  exact ofR_may hm (by omega)

theorem EntryTables_c {v : Value} {l : List UInt8} {i k p n b : Int} (hB : Bytes h v l) (hn : -9223372036854775808 ≤ n ∧ n < 9223372036854775808) (H : ∀ h', Ext h h' → K (.bool true) h') :
    CallsH Try.prog 7 #[v, .int .i64 i, .agg #[.int .i64 k, .int .i64 p, .int .i64 n, .int .i64 b]] h K ⟨⟩ := by
  obtain ⟨h0, e0⟩ : ∃ h0, h0 = hset (hset (hset ((h.push (.cells #[.int .i64 k, .int .i64 p, .int .i64 n, .int .i64 b] 63)).push (.cells #[.int .i64 0, .int .i64 0, .int .i64 0] 24)) ⟨h.size + 1, 0, none⟩ (.int .i64 k)) ⟨h.size + 1, 1, none⟩ (.int .i64 p)) ⟨h.size + 1, 2, none⟩ (.int .i64 n) := ⟨_, rfl⟩
  have hE0 : Ext h h0 := by rw [e0]; exact (by repeat' (first | (with_reducible exact Ext.refl _) | (with_reducible assumption) | (with_reducible refine push_ext ?_) | (with_reducible refine hset_ext ?_ ?_) | (with_reducible refine Ext.trans ?_ (by assumption)) | omega | (simp; done) | (simp; omega) | (refine Ext.size ?_) | (refine Nat.le_succ_of_le (Ext.size ?_))))
  have c0 : hcell h0 ⟨h.size + 1, 0, none⟩ = some (.int .i64 k) := by simp [e0]
  have c1 : hcell h0 ⟨h.size + 1, 1, none⟩ = some (.int .i64 p) := by simp [e0]
  have c2 : hcell h0 ⟨h.size + 1, 2, none⟩ = some (.int .i64 n) := by simp [e0]
  have c3 : hcell h0 ⟨h.size, 3, none⟩ = some (.int .i64 b) := by simp [e0]
  have hz0 : h0.size = h.size + 2 := by simp [e0]
  replace hB := hB.ext hE0
  replace H : ∀ h', Ext h0 h' → K (.bool true) h' := fun h' e => H h' (hE0.trans e)
  clear hE0
  obtain ⟨k', p', n', e', hG⟩ : ∃ k' p' n' e', getE l i b = ((k', p', n'), e') := ⟨_, _, _, _, rfl⟩
  obtain ⟨o, q0, rfl⟩ := hB.form
  refine n7_calls ?_
  unfold n7
  by_cases hl : (10000 : Int) < l.length
  · simp (disch := omega) [hl, ← e0, c3]
    exact Known_c H
  · simp (disch := omega) [hl, ← e0, c3]
    clear e0
    refine Hp_appB (e := 5) (l := []) (by kernel_rfl) (by kernel_rfl) .nil hB (by simp; omega) fun v1 h1 hO1 hM1 hF1 _ => ?_
    have hE1 : Ext h0 h1 := hM1.ext (fun b _ e => by cases e)
    have hlt1 : ∀ b, blkV v1 = some b → h0.size ≤ b := fun b hb => (hF1 b hb).resolve_left (by rintro ⟨⟩)
    simp (disch := omega)
    have hs77 : OwnS 1 (h1.push (.cells #[.int .u8 77] 5)) (.slice (some ⟨h1.size, 0, none⟩) 1 1) (([77] : List UInt8).map byteV) := OwnS_new (vs := [byteV 77]) rfl rfl
    refine Hp_appB1 (e := 5) (l := l) (by kernel_rfl) (by kernel_rfl) (hO1.ext (push_ext (.refl _))) hs77.bytes (by simp; omega) (by simp) fun B c h2 hO2 hM2 hF2 => ?_
    have hE2 : Ext h0 h2 := hM2.ext_from (push_ext hE1) (fun b hb hb' => by have := hlt1 b hb'; omega)
    have hBlt : h0.size ≤ B := hF2.elim (hlt1 B) (fun x => by have := hE1.size; simp at x; omega)
    clear hM1 hF1 hO1 hlt1 hM2 hF2 hs77
    have hsg := hO2.seg
    have hcc : l.length + 1 ≤ c := by simpa using hsg.2.1
    simp only [List.length_cons, List.length_nil, Nat.zero_add] at hO2
    -- what one's own bytes give
    have pre : ∀ {h' : Heap} {l' : List UInt8}, l'.length = l.length → OwnS 1 h' (.slice (some ⟨B, 0, none⟩) (l.length + 1) c) ((l' ++ [77]).map byteV) → Bytes h' (.slice (some ⟨B, 0, none⟩) l.length c) l' ∧ hcell h' (elt ⟨B, 0, none⟩ l.length) = some (byteV 77) := by
      intro h' l' hl' hO
      have h1 := (hO.pre (k := l.length) (by simp; omega)).1
      rw [← hl', List.take_left, hl'] at h1
      have h2 := hO.seg.2.2 l.length (by simp; omega)
      refine ⟨h1, ?_⟩
      rw [h2]
      simp [← hl']
    have hP2 := pre rfl hO2
    simp (disch := omega)
    refine EGet_c hP2.1 (by omega) hG (fun h3 e3 => ?_)
    have hE3 := hE2.trans e3
    have hz3 := hE3.size
    have hz3' := e3.size
    have chE3 := ext_cell hE3 rfl; have fhE3 := ext_frz hE3 rfl; have shE3 := (hE3).size; (try simp only [Array.size_push, hset_size] at chE3); (try simp only [Array.size_push, hset_size] at fhE3); (try simp only [Array.size_push, hset_size] at shE3)
    clear hE3
    simp (disch := omega)
    refine ERefGet_c (hB.ext (by repeat' (first | (with_reducible exact Ext.refl _) | (with_reducible assumption) | (with_reducible refine push_ext ?_) | (with_reducible refine hset_ext ?_ ?_) | (with_reducible refine Ext.trans ?_ (by assumption)) | omega | (simp; done) | (simp; omega) | (refine Ext.size ?_) | (refine Nat.le_succ_of_le (Ext.size ?_))))) (by omega) hG (fun h4 e4 => ?_)
    have hz4 := e4.size
    simp at hz4
    have ce4 := ext_cell e4 rfl; have fe4 := ext_frz e4 rfl; have se4 := (e4).size; (try simp only [Array.size_push, hset_size] at ce4); (try simp only [Array.size_push, hset_size] at fe4); (try simp only [Array.size_push, hset_size] at se4)
    simp (disch := omega) [ce4, fe4]
    refine (Try.cv39_9 (hP2.1.ext (by repeat' (first | (with_reducible exact Ext.refl _) | (with_reducible assumption) | (with_reducible refine push_ext ?_) | (with_reducible refine hset_ext ?_ ?_) | (with_reducible refine Ext.trans ?_ (by assumption)) | omega | (simp; done) | (simp; omega) | (refine Ext.size ?_) | (refine Nat.le_succ_of_le (Ext.size ?_)))))).2 ?_
    simp (disch := omega)
    refine (Try.cv39_9 (hB.ext (by repeat' (first | (with_reducible exact Ext.refl _) | (with_reducible assumption) | (with_reducible refine push_ext ?_) | (with_reducible refine hset_ext ?_ ?_) | (with_reducible refine Ext.trans ?_ (by assumption)) | omega | (simp; done) | (simp; omega) | (refine Ext.size ?_) | (refine Nat.le_succ_of_le (Ext.size ?_)))))).2 ?_
    have hBl : B < h2.size := hO2.lt rfl
    simp (disch := omega) [ce4, fe4, chE3, fhE3, c0, c1, c2]
    by_cases hz : putE l.length i k p n b = 0
    · refine ERefPut_c (hB.ext (by repeat' (first | (with_reducible exact Ext.refl _) | (with_reducible assumption) | (with_reducible refine push_ext ?_) | (with_reducible refine hset_ext ?_ ?_) | (with_reducible refine Ext.trans ?_ (by assumption)) | omega | (simp; done) | (simp; omega) | (refine Ext.size ?_) | (refine Nat.le_succ_of_le (Ext.size ?_))))) (by omega) (fun h5 e5 he => absurd hz he) (fun v5 h5 e5 _ hb5 hF5 => ?_)
      simp at hF5
      have hz5 := e5.size
      simp at hz5
      have ce5 := ext_cell e5 rfl; have fe5 := ext_frz e5 rfl; have se5 := (e5).size; (try simp only [Array.size_push, hset_size] at ce5); (try simp only [Array.size_push, hset_size] at fe5); (try simp only [Array.size_push, hset_size] at se5)
      simp (disch := omega) [ce5, fe5, ce4, fe4, chE3, fhE3, c0, c1, c2]
      refine PutO_c (L := l ++ [77]) (hO2.ext (by repeat' (first | (with_reducible exact Ext.refl _) | (with_reducible assumption) | (with_reducible refine push_ext ?_) | (with_reducible refine hset_ext ?_ ?_) | (with_reducible refine Ext.trans ?_ (by assumption)) | omega | (simp; done) | (simp; omega) | (refine Ext.size ?_) | (refine Nat.le_succ_of_le (Ext.size ?_))))) (by simp) (by simp; omega) hn (fun h' _ he => absurd hz he) (fun h6 h7 e6 _ hO7 hM7 => ?_)
      have hpz := putE_zero hz
      have hov : over (l ++ [77]) (8 * i.toNat) (leB 8 (wordE k p n).toNat) = over l (8 * i.toNat) (leB 8 (wordE k p n).toNat) ++ [77] := by
        unfold over
        rw [List.take_append_of_le_length (by omega), List.drop_append_of_le_length (by simp; omega)]
        simp
      have hgo := getE_over hz
      have hlo : (over l (8 * i.toNat) (leB 8 (wordE k p n).toNat)).length = l.length := over_length (by simp; omega)
      rw [hov] at hO7
      have hP7 := pre hlo hO7
      have hb7 : Bytes h7 v5 (over l (8 * i.toNat) (leB 8 (wordE k p n).toNat)) := (hb5.ext e6).mod hM7 (fun b hb => by have := hF5 b hb; omega)
      have hE7 : Ext h0 h7 := hM7.ext_from (Ext.trans (b := h5) (by repeat' (first | (with_reducible exact Ext.refl _) | (with_reducible assumption) | (with_reducible refine push_ext ?_) | (with_reducible refine hset_ext ?_ ?_) | (with_reducible refine Ext.trans ?_ (by assumption)) | omega | (simp; done) | (simp; omega) | (refine Ext.size ?_) | (refine Nat.le_succ_of_le (Ext.size ?_)))) e6) (fun b hb hb' => by omega)
      have hmc := fun (b i : Nat) (hb : b < h6.size) (hn : b ≠ B) => hM7.cell (a := ⟨b, i, none⟩) hb hn
      have hz6 := e6.size
      have hz7 := hM7.size
      simp (disch := omega)
      refine (Try.cv39_9 hP7.1).2 ?_
      simp (disch := omega)
      refine (Try.cv39_9 hb7).2 ?_
      simp (disch := omega) [hP7.2]
      refine EGet_c hP7.1 (by omega) hgo (fun h8 e8 => ?_)
      have hz8 := e8.size
      have ce8 := ext_cell e8 rfl; have fe8 := ext_frz e8 rfl; have se8 := (e8).size; (try simp only [Array.size_push, hset_size] at ce8); (try simp only [Array.size_push, hset_size] at fe8); (try simp only [Array.size_push, hset_size] at se8)
      have ce6 := ext_cell e6 rfl; have fe6 := ext_frz e6 rfl; have se6 := (e6).size; (try simp only [Array.size_push, hset_size] at ce6); (try simp only [Array.size_push, hset_size] at fe6); (try simp only [Array.size_push, hset_size] at se6)
      simp (disch := omega) [ce8, fe8, hmc, ce6, fe6, ce5, fe5, ce4, fe4, chE3, fhE3, c0, c1, c2]
      refine Known_c fun h' e => ?_
      simp (disch := omega)
      exact H h' (hE7.trans (by repeat' (first | (with_reducible exact Ext.refl _) | (with_reducible assumption) | (with_reducible refine push_ext ?_) | (with_reducible refine hset_ext ?_ ?_) | (with_reducible refine Ext.trans ?_ (by assumption)) | omega | (simp; done) | (simp; omega) | (refine Ext.size ?_) | (refine Nat.le_succ_of_le (Ext.size ?_)))))
    · have hne : ¬ putE l.length i k p n b = 0 := hz
      refine ERefPut_c (hB.ext (by repeat' (first | (with_reducible exact Ext.refl _) | (with_reducible assumption) | (with_reducible refine push_ext ?_) | (with_reducible refine hset_ext ?_ ?_) | (with_reducible refine Ext.trans ?_ (by assumption)) | omega | (simp; done) | (simp; omega) | (refine Ext.size ?_) | (refine Nat.le_succ_of_le (Ext.size ?_))))) (by omega) (fun h5 e5 _ => ?_) (fun v5 h5 e5 he => absurd he hz)
      have hz5 := e5.size
      simp at hz5
      have ce5 := ext_cell e5 rfl; have fe5 := ext_frz e5 rfl; have se5 := (e5).size; (try simp only [Array.size_push, hset_size] at ce5); (try simp only [Array.size_push, hset_size] at fe5); (try simp only [Array.size_push, hset_size] at se5)
      simp (disch := omega) [ce5, fe5, ce4, fe4, chE3, fhE3, c0, c1, c2]
      refine PutO_c (L := l ++ [77]) (hO2.ext (by repeat' (first | (with_reducible exact Ext.refl _) | (with_reducible assumption) | (with_reducible refine push_ext ?_) | (with_reducible refine hset_ext ?_ ?_) | (with_reducible refine Ext.trans ?_ (by assumption)) | omega | (simp; done) | (simp; omega) | (refine Ext.size ?_) | (refine Nat.le_succ_of_le (Ext.size ?_))))) (by simp) (by simp; omega) hn (fun h6 e6 _ => ?_) (fun h6 h7 e6 he => absurd he hz)
      simp (disch := omega)
      have hP6 := pre rfl (hO2.ext (h' := h6) (by repeat' (first | (with_reducible exact Ext.refl _) | (with_reducible assumption) | (with_reducible refine push_ext ?_) | (with_reducible refine hset_ext ?_ ?_) | (with_reducible refine Ext.trans ?_ (by assumption)) | omega | (simp; done) | (simp; omega) | (refine Ext.size ?_) | (refine Nat.le_succ_of_le (Ext.size ?_)))))
      refine (Try.cv39_9 hP6.1).2 ?_
      simp (disch := omega)
      refine (Try.cv39_9 (hB.ext (by repeat' (first | (with_reducible exact Ext.refl _) | (with_reducible assumption) | (with_reducible refine push_ext ?_) | (with_reducible refine hset_ext ?_ ?_) | (with_reducible refine Ext.trans ?_ (by assumption)) | omega | (simp; done) | (simp; omega) | (refine Ext.size ?_) | (refine Nat.le_succ_of_le (Ext.size ?_)))))).2 ?_
      simp (disch := omega) [hP6.2, hne]
      refine Known_c fun h' e => ?_
      exact H h' (by repeat' (first | (with_reducible exact Ext.refl _) | (with_reducible assumption) | (with_reducible refine push_ext ?_) | (with_reducible refine hset_ext ?_ ?_) | (with_reducible refine Ext.trans ?_ (by assumption)) | omega | (simp; done) | (simp; omega) | (refine Ext.size ?_) | (refine Nat.le_succ_of_le (Ext.size ?_))))

end Go.Proofs.Ytmppolccfjfoaaa
namespace Go.Proofs.Ytmppolccfjfoaaa.entryTables
open Go.ChangeShapes Go.WideShapes Go.ChangeAt Go.RowKit Go.Joins Go.Vc

theorem own : ownKnob Try.prog.godebug = none := by kernel_rfl
theorem laidOut : laidOutB Try.prog = true := by kernel_rfl

set_option maxRecDepth 100000 in
set_option maxHeartbeats 1000000 in
theorem lifted (os : Os) (started : os.Started) (H : Type) (enc : TypeId × Value → H) :
    ReturnsInHanded {} Try.checked os 7 .any (Rows.entryTablesSpec.pre6 enc Try.prog Try.f7 Rows.entryTablesRow.domain false) (Rows.entryTablesSpec.post enc Try.prog Try.f7 false true false false) := by
  refine returnsInHanded_of_change (C := Try.checked) own started (by kernel_rfl) Try.func7
    (ChangeSpec.witness6 (enc := enc) (C := Try.checked) false ⟨#[], #[.slice none 0 0, .int .i64 0, .agg #[.int .i64 0, .int .i64 0, .int .i64 0, .int .i64 0]], []⟩ 8 (by kernel_rfl) (by kernel_rfl) (by kernel_rfl) (by kernel_rfl)) ?_
  intro W base args ds gs before hval0 hW hcnd _
  have hval : ∀ (j : Nat) t v, Try.f7.params[j]? = some t → args[j]? = some v → Value.okWide Try.prog W .any base t v := hval0
  have hW' := hW
  obtain ⟨p, q, hA0, hV, rfl, hfz, hnd⟩ := hW
  have hA : DataW.TrodAll enc Try.prog W 0 (fun _ => true) true Try.f7.params.toList args.toList ds p := hA0
  rw [Try.params7] at hA hval
  obtain ⟨v0, vs0, d0, ds0, p0, q0, hargs, rfl, rfl, h0, r0⟩ := trodAll_cons hA
  obtain ⟨v1, vs1, d1, ds1, p1, q1, rfl, rfl, rfl, h1, r1⟩ := trodAll_cons r0
  obtain ⟨v2, vs2, d2, ds2, p2, q2, rfl, rfl, rfl, h2, r2⟩ := trodAll_cons r1
  obtain ⟨rfl, rfl, rfl⟩ := trodAll_nil r2
  obtain rfl : args = #[v0, v1, v2] := by cases args; simp_all
  obtain ⟨l, hB, _⟩ := open_bytes (e := 5) (by kernel_rfl) (by kernel_rfl) (by kernel_rfl) (hval 0 39 v0 rfl rfl) h0
  obtain ⟨i, rfl, _, _, wi⟩ := open_int (k := .i64) (by kernel_rfl) (hval 1 3 v1 rfl rfl) h1
  obtain ⟨cs, rfl, hl, hL⟩ := Laid.topFlds (L := [(24, 0, 3), (3, 3, 1)]) (n := 4) (by kernel_rfl) (by kernel_rfl) (hval 2 63 v2 rfl rfl) h2
  obtain ⟨c0, c1, c2, c3, rfl⟩ := len4 hl
  obtain ⟨hl3, hL3⟩ := (hL 0 _ _ _ rfl).flds (L := [(22, 0, 1), (2, 1, 1), (3, 2, 1)]) (n := 3) (by kernel_rfl) (by kernel_rfl)
  obtain ⟨k, hk, -⟩ := (hL3 0 _ _ _ rfl).int (k := .i64) (by kernel_rfl)
  obtain ⟨p, hp, -⟩ := (hL3 1 _ _ _ rfl).int (k := .i64) (by kernel_rfl)
  obtain ⟨n, hn, hn1, hn2⟩ := (hL3 2 _ _ _ rfl).int (k := .i64) (by kernel_rfl)
  obtain ⟨b, hb, -⟩ := (hL 1 _ _ _ rfl).int (k := .i64) (by kernel_rfl)
  obtain rfl : c0 = .int .i64 k := by simpa using hk
  obtain rfl : c1 = .int .i64 p := by simpa using hp
  obtain rfl : c2 = .int .i64 n := by simpa using hn
  obtain rfl : c3 = .int .i64 b := by simpa using hb
  have hn3 : -9223372036854775808 ≤ n ∧ n < 9223372036854775808 := by
    simp [IntKind.min, IntKind.max, IntKind.signed, IntKind.bits] at hn1 hn2
    omega
  refine ((EntryTables_c (h := W.heap) hB hn3 (K := fun v h' => v = .bool true ∧ Ext W.heap h') (fun h' e => ⟨rfl, e⟩)).out W rfl).mono fun e W' ⟨v, he, hs, hv, hx⟩ => ?_
  exact ⟨v, he, hv ▸ law_post laidOut (by kernel_rfl) rfl (tb := 4) (by kernel_rfl) (by kernel_rfl) hW' (fun hg => by rw [hg]; rfl) (below_of hs hx)⟩

theorem proved : Rows.EntryTablesSaid :=
  OpenClaim.holds_of_wide 7 Try.f7 rfl rfl rfl rfl rfl rfl rfl ⟨rfl, rfl, rfl, rfl, rfl⟩ rfl rfl rfl rfl rfl (by kernel_rfl) Try.func7 (by kernel_rfl)
    (of_decide_eq_true (by kernel_rfl)) (by unfold Func.isWrapper; first | (rw [if_pos (by decide +kernel)]; kernel_rfl) | (rw [if_neg (by decide +kernel)]; exact ⟨rfl, rfl⟩))
    (fun os started H enc _ => lifted os started H enc)
end Go.Proofs.Ytmppolccfjfoaaa.entryTables
