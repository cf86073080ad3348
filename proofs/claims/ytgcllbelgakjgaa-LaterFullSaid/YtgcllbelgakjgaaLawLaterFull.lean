/- What is proved: the law palimpsestlaw13.LaterFull returns true. No conditions. -/
import Derived.Test.YtgcllbelgakjgaaRows
import Derived.Test.YtgcllbelgakjgaaLatE
set_option linter.unusedSimpArgs false
set_option linter.unusedVariables false
namespace Go.Proofs.Ytgcllbelgakjgaa
open Go.Vc
variable {K : Value → Heap → Prop} {h : Heap}

def fillR : Nat → Nat → List Rn
  | _, 0 => []
  | k, n + 1 => ⟨4 * k, 3⟩ :: fillR (k + 1) n
theorem fillR_len : ∀ (n k : Nat), (fillR k n).length = n
  | 0, k => rfl
  | n + 1, k => by rw [fillR, List.length_cons, fillR_len]
theorem fillR_mem : ∀ (n k : Nat), ∀ x ∈ fillR k n, x.len = 3 ∧ 4 * k ≤ x.at_ ∧ x.at_ < 4 * (k + n)
  | 0, k, x, hx => by cases hx
  | n + 1, k, x, hx => by
    rcases List.mem_cons.1 hx with rfl | hx
    · exact ⟨rfl, by dsimp only; omega, by dsimp only; omega⟩
    · have := fillR_mem n (k + 1) x hx; omega
theorem fillR_can : ∀ (n k : Nat), Vc.Can (fillR k n)
  | 0, k => trivial
  | n + 1, k => ⟨by simp, fun y hy => by have := fillR_mem n (k + 1) y hy; unfold Rn.en; dsimp only; omega, fillR_can n (k + 1)⟩
theorem fillR_bytes : ∀ (n k : Nat), bytesR (fillR k n) = 3 * n
  | 0, k => rfl
  | n + 1, k => by
    have := fillR_bytes n (k + 1)
    have e : fillR k (n + 1) = ⟨4 * k, 3⟩ :: fillR (k + 1) n := rfl
    rw [e]
    unfold bytesR at *
    simp only [List.map_cons, List.sum_cons]
    omega
theorem fillR_snoc : ∀ (n k : Nat), fillR k (n + 1) = fillR k n ++ [⟨4 * (k + n), 3⟩]
  | 0, k => rfl
  | n + 1, k => by
    rw [fillR, fillR_snoc n (k + 1)]
    have e : fillR k (n + 1) = ⟨4 * k, 3⟩ :: fillR (k + 1) n := rfl
    rw [e, List.cons_append, show k + 1 + n = k + (n + 1) by omega]
theorem cut_first {n : Nat} {x : Rn} (hx : x.en ≤ 4) : lessR x (fillR 0 (n + 1)) = lessO x ⟨0, 3⟩ ++ fillR 1 n ∧ overR x (fillR 0 (n + 1)) = meet x ⟨0, 3⟩ := by
  have e : fillR 0 (n + 1) = ⟨0, 3⟩ :: fillR 1 n := rfl
  rw [e]
  have hf := less_far (x := x) (L := fillR 1 n) (fun y hy => by have := fillR_mem n 1 y hy; omega)
  constructor
  · have : lessR x (⟨0, 3⟩ :: fillR 1 n) = lessO x ⟨0, 3⟩ ++ lessR x (fillR 1 n) := by unfold lessR; rw [List.flatMap_cons]
    rw [this, hf.1]
  · have : overR x (⟨0, 3⟩ :: fillR 1 n) = meet x ⟨0, 3⟩ + overR x (fillR 1 n) := by unfold overR; rw [List.map_cons, List.sum_cons]
    rw [this, hf.2, Nat.add_zero]
/-- Runs that are in order come out as they went in. -/
theorem putR_can {L : List Rn} (hc : Vc.Can L) (hf : Fit L) : putR [] L = L := by
  obtain ⟨h1, h2, -⟩ := putR_spec (M := L) (L := []) trivial hc.pos (fun x hx => by cases hx) hf
  exact can_eq h1 hc fun p => by rw [h2]; exact ⟨fun e => e.resolve_left Cov.nil, .inr⟩
theorem zero_cells (n : Nat) : (List.replicate n [(Value.int .i64 0), .int .i64 0]).flatten = (List.replicate n (⟨0, 0⟩ : Rn)).flatMap (cell2 rnP) := by
  induction n with
  | zero => rfl
  | succ n ih => rw [List.replicate_succ, List.replicate_succ, List.flatten_cons, List.flatMap_cons, ih]; rfl
set_option maxHeartbeats 8000000 in
theorem LaterFull_c (H : ∀ h', Ext h h' → K (.bool true) h') : CallsH Try.prog 3 #[] h K ⟨⟩ := by
  refine n3_calls ?_
  unfold n3
  obtain ⟨N, hN⟩ : ∃ N : Nat, N = 4096 := ⟨_, rfl⟩
  have h4 : (4096 : Int) = (N : Int) := by omega
  rw [h4]
  refine (Hp_makeS (e := runT) (s := 2) (by_ := 16) (n := (N : Int)) (c := (N : Int)) (z := .agg #[.int .i64 0, .int .i64 0]) (zs := [.int .i64 0, .int .i64 0]) (by kernel_rfl) (by kernel_rfl) rfl (by omega) (by omega) (by omega) (by omega)).2 ?_
  rw [ValT_iff, ValT_iff, Int.toNat_natCast]
  refine (⟨_, rfl⟩ : ∃ f, f = h.push (.cells (List.replicate N [Value.int .i64 0, .int .i64 0]).flatten.toArray runT)).elim fun g0 eg0 => ?_
  have e0 : Ext h g0 := by rw [eg0]; exact (by repeat' (first | (with_reducible exact Ext.refl _) | (with_reducible assumption) | (with_reducible refine push_ext ?_) | (with_reducible refine hset_ext ?_ ?_) | (with_reducible refine Ext.trans ?_ (by assumption)) | omega | (simp; done) | (simp; omega) | (refine Ext.size ?_) | (refine Nat.le_succ_of_le (Ext.size ?_))))
  have o0 : OwnT runT 2 g0 (.slice (some ⟨h.size, 0, none⟩) N N) ((List.replicate N (⟨0, 0⟩ : Rn)).flatMap (cell2 rnP)) := by
    rw [← zero_cells]
    refine .inr ⟨h.size, N, N, [], rfl, by simp, Nat.le_refl _, ?_, by simp⟩
    rw [List.append_nil, eg0]
    exact get_pushed rfl
  rw [← eg0]
  clear eg0
  refine loopX1 (α := Nat) (fun i => .int .i64 i) (fun i g => i ≤ N ∧ Mod (· = h.size) g0 g ∧ OwnT runT 2 g (.slice (some ⟨h.size, 0, none⟩) N N) ((fillR 0 i ++ List.replicate (N - i) (⟨0, 0⟩ : Rn)).flatMap (cell2 rnP))) (fun i => N - i) 0 rfl ⟨by omega, .refl _ _, by simpa [fillR] using o0⟩ ?_
  rintro i g ⟨hi, mg, o⟩ X hX
  by_cases hin : i < N
  · have hl := cell2_len (pq := rnP) (fillR 0 i ++ List.replicate (N - i) (⟨0, 0⟩ : Rn))
    have hll : (fillR 0 i ++ List.replicate (N - i) (⟨0, 0⟩ : Rn)).length = N := by rw [List.length_append, fillR_len, List.length_replicate]; omega
    have c0 := o.elt (i := i * 2) (by omega)
    have r1 := o.setE (i := i * 2) (by omega) (u := .int .i64 ((4 * i : Nat) : Int))
    have c1 := r1.elt (i := i * 2 + 1) (by rw [List.length_set]; omega)
    have r2 := r1.setE (i := i * 2 + 1) (by rw [List.length_set]; omega) (u := .int .i64 ((3 : Nat) : Int))
    have hset : (((fillR 0 i ++ List.replicate (N - i) (⟨0, 0⟩ : Rn)).flatMap (cell2 rnP)).set (i * 2) (.int .i64 ((4 * i : Nat) : Int))).set (i * 2 + 1) (.int .i64 ((3 : Nat) : Int)) = _ := cell2_set (pq := rnP) (fillR 0 i ++ List.replicate (N - i) (⟨0, 0⟩ : Rn)) i ⟨4 * i, 3⟩ (by omega)
    have hfill : (fillR 0 i ++ List.replicate (N - i) (⟨0, 0⟩ : Rn)).set i ⟨4 * i, 3⟩ = fillR 0 (i + 1) ++ List.replicate (N - (i + 1)) (⟨0, 0⟩ : Rn) := by
      rw [List.set_append_right _ _ (by rw [fillR_len]; exact Nat.le_refl _), fillR_len, Nat.sub_self, show N - i = (N - (i + 1)) + 1 by omega, List.replicate_succ, List.set_cons_zero, fillR_snoc, Nat.zero_add]
      simp
    have d1 := o.elt (i := i * 2 + 1) (by omega)
    have hne : ¬ i * 2 = i * 2 + 1 := by omega
    simp (disch := omega) [c0.1, c0.2, d1.1, d1.2, elt_inj, hne]
    rw [hset, hfill] at r2
    refine hX (i + 1) _ _ (by simp) ⟨hin, ?_, ?_⟩ (by omega)
    · exact Mod.setIn (Mod.setIn mg (.inl (by simp))) (.inl (by simp))
    · have e4 : ((4 * i : Nat) : Int) = 4 * (i : Int) := by omega
      rw [e4] at r2
      exact r2
  · obtain rfl : i = N := by omega
    rw [Nat.sub_self, List.replicate_zero, List.append_nil] at o
    have hc := fillR_can i 0
    have hmem := fillR_mem i 0
    have hfl := fillR_len i 0
    have hby := fillR_bytes i 0
    have hf : Fit (fillR 0 i) := fun x hx => by have := hmem x hx; unfold Rn.en; omega
    have hput := putR_can hc hf
    obtain ⟨n, hn⟩ : ∃ n, i = n + 1 := ⟨i - 1, by omega⟩
    have hcut := fun x hx => cut_first (n := n) (x := x) hx
    rw [← hn] at hcut
    have hcx : Vc.Can (fillR 0 i ++ [(⟨100000, 1⟩ : Rn)]) := can_snoc hc (by simp) (fun y hy => by have := hmem y hy; unfold Rn.en; dsimp only; omega)
    have hfx : Fit (fillR 0 i ++ [(⟨100000, 1⟩ : Rn)]) := fun x hx => by
      rcases List.mem_append.1 hx with hx | hx
      · exact hf x hx
      · simp at hx; subst hx; unfold Rn.en; dsimp only; omega
    have hputx := putR_can hcx hfx
    have hinsx : putR (fillR 0 i) [(⟨100000, 1⟩ : Rn)] = fillR 0 i ++ [(⟨100000, 1⟩ : Rn)] := by
      rw [← hputx]
      unfold putR
      rw [List.foldl_append]
      have e := hput
      unfold putR at e
      rw [e]
    generalize fillR 0 i = L at *
    subst hfl
    have eg : Ext h g := mg.ext_from e0 (fun b hb e => by omega)
    have rv := Rns.of o (by omega) hf
    simp (disch := omega)
    have hmay : ∀ x ∈ L.map rnP, mayR x := fun x hx => by
      obtain ⟨y, hy, rfl⟩ := List.mem_map.1 hx
      have := hmem y hy
      have := hf y hy
      unfold rnP mayR Rn.en at *
      dsimp only; omega
    have hofL : (L.map rnP).map rnOf = L := by
      rw [List.map_map]
      conv => rhs; rw [← List.map_id L]
      exact List.map_congr_left fun x _ => by unfold rnOf rnP; simp
    refine New_c rv (by simp; omega) (fun h2 e2 hn => absurd hmay hn) (fun h2 e2 _ hn => by rw [hofL, hput] at hn; omega) (fun q s h2 _ a2 e2 f2 => ?_)
    rw [hofL, hput] at a2
    simp (disch := omega)
    have e3 : Ext h2 (h2.push (.cells #[.int .i64 100000, .int .i64 1] runT)) := (by repeat' (first | (with_reducible exact Ext.refl _) | (with_reducible assumption) | (with_reducible refine push_ext ?_) | (with_reducible refine hset_ext ?_ ?_) | (with_reducible refine Ext.trans ?_ (by assumption)) | omega | (simp; done) | (simp; omega) | (refine Ext.size ?_) | (refine Nat.le_succ_of_le (Ext.size ?_))))
    refine Hp_appR (L := L) (x := ⟨100000, 1⟩) rfl (o.ext e2) (by omega) fun v4 h4 o4 m4 f4 => ?_
    have hgz : h.size < g.size := by
      have := o.lt (b := h.size) rfl
      exact this
    have hf2 : ∀ b, foot q s b → g.size ≤ b := f2
    have a4 := a2.mod m4 (fun b hb e => by have h8 := hf2 b hb; have h9 : some h.size = some b := e; cases h9; omega)
    have eg4 : Ext h h4 := m4.ext_from (eg.trans e2) (fun b hb e => by have h9 : some h.size = some b := e; cases h9; omega)
    have r4 := Rns.of o4 (by simp; omega) hfx
    have hmay4 : ∀ x ∈ (L ++ [(⟨100000, 1⟩ : Rn)]).map rnP, mayR x := fun x hx => by
      obtain ⟨y, hy, rfl⟩ := List.mem_map.1 hx
      have := hcx.pos y hy
      have := hfx y hy
      unfold rnP mayR Rn.en at *
      dsimp only; omega
    have hof4 : ((L ++ [(⟨100000, 1⟩ : Rn)]).map rnP).map rnOf = L ++ [(⟨100000, 1⟩ : Rn)] := by
      rw [List.map_map]
      conv => rhs; rw [← List.map_id (L ++ [(⟨100000, 1⟩ : Rn)])]
      exact List.map_congr_left fun x _ => by unfold rnOf rnP; simp
    refine New_c r4 (by simp; omega) (fun h5 e5 hn => absurd hmay4 hn) (fun h5 e5 _ _ => ?_) (fun q5 s5 h5 _ a5 e5 f5 => by have := a5.len; rw [hof4, hputx] at this; simp at this; omega)
    have hpq : ptrV q = .pointer (some ⟨q, 0, none⟩) := rfl
    simp (disch := omega) [hpq]
    refine num_c ?_
    simp (disch := omega)
    refine num_c ?_
    simp (disch := omega)
    have a5 := a4.ext e5
    have e6 : Ext h5 (h5.push (.cells #[.int .i64 100000, .int .i64 1] runT)) := (by repeat' (first | (with_reducible exact Ext.refl _) | (with_reducible assumption) | (with_reducible refine push_ext ?_) | (with_reducible refine hset_ext ?_ ?_) | (with_reducible refine Ext.trans ?_ (by assumption)) | omega | (simp; done) | (simp; omega) | (refine Ext.size ?_) | (refine Nat.le_succ_of_le (Ext.size ?_))))
    have r6 : Rws (h5.push (.cells #[.int .i64 100000, .int .i64 1] runT)) (.slice (some ⟨h5.size, 0, none⟩) 1 1) [(100000, 1)] := rws_new1 (x := (100000, 1)) (by unfold i64; simp)
    have hm1 : ∀ x ∈ [((100000 : Int), (1 : Int))], mayR x := by intro x hx; simp at hx; subst hx; unfold mayR; simp
    refine Put_c (a5.ext e6) r6 (by simp) (fun _ b hb hf => by have h8 := a5.lt hf; have h9 : some h5.size = some b := hb; cases h9; exact Nat.lt_irrefl _ h8) (fun h7 e7 hn => absurd hm1 hn) (fun h7 e7 _ _ => ?_) (fun s7 h7 _ u7 => by
      have := u7.st.len
      rw [show [((100000 : Int), (1 : Int))].map rnOf = [⟨100000, 1⟩] from rfl, hinsx] at this
      simp at this; omega)
    simp (disch := omega)
    have a7 := a5.ext (e6.trans e7)
    refine Cut_c (x := (1, 1)) a7 (by unfold i64; simp) (fun h8 e8 hn => absurd (by unfold mayR; simp) hn) (fun h8 e8 _ _ => ?_) (fun s8 h8 _ u8 => by
      have := u8.st.len
      rw [show rnOf (1, 1) = ⟨1, 1⟩ from rfl, (hcut ⟨1, 1⟩ (by unfold Rn.en; simp)).1, List.length_append, fillR_len] at this
      have e : (lessO ⟨1, 1⟩ ⟨0, 3⟩).length = 2 := rfl
      omega)
    simp (disch := omega)
    refine Size_c (a7.ext e8) fun h9 e9 => ?_
    simp (disch := omega)
    have a9 := a7.ext (e8.trans e9)
    have hc01 := hcut ⟨0, 1⟩ (by unfold Rn.en; simp)
    have e01 : (lessO ⟨0, 1⟩ ⟨0, 3⟩).length = 1 := rfl
    refine Cut_c (x := (0, 1)) a9 (by unfold i64; simp) (fun h10 e10 hn => absurd (by unfold mayR; simp) hn) (fun h10 e10 _ hn => by
      rw [show rnOf (0, 1) = ⟨0, 1⟩ from rfl, hc01.1, List.length_append, fillR_len] at hn
      omega) (fun s10 h10 _ u10 => ?_)
    rw [show rnOf (0, 1) = ⟨0, 1⟩ from rfl, hc01.2, show meet ⟨0, 1⟩ ⟨0, 3⟩ = 1 from rfl]
    have hlN : ((L.length : Nat) : Int) = 4096 := by omega
    have hbN : ((bytesR L : Nat) : Int) = 12288 := by omega
    have E9 : Ext h h9 := eg4.trans (e5.trans ((e6.trans e7).trans (e8.trans e9)))
    have E10 : Ext h h10 := u10.mod.ext_from E9 (fun b hb hf => by have := hf2 b hf; omega)
    simp (disch := omega) [hlN, hbN]
    refine num_c ?_
    simp (disch := omega) [hlN, hbN]
    refine num_c ?_
    simp (disch := omega) [hlN, hbN]
    refine num_c ?_
    simp (disch := omega)
    refine works_c fun h11 e11 => ?_
    simp (disch := omega)
    exact H _ (E10.trans e11)
end Go.Proofs.Ytgcllbelgakjgaa
namespace Go.Proofs.Ytgcllbelgakjgaa.laterFull
open Go.ChangeShapes Go.WideShapes Go.ChangeAt Go.RowKit Go.Joins Go.Vc

theorem own : ownKnob Try.prog.godebug = none := by kernel_rfl
theorem laidOut : laidOutB Try.prog = true := by kernel_rfl

set_option maxRecDepth 100000 in
set_option maxHeartbeats 1000000 in
theorem lifted (os : Os) (started : os.Started) (H : Type) (enc : TypeId × Value → H) :
    ReturnsInHanded {} Try.checked os 3 .any (Rows.laterFullSpec.pre6 enc Try.prog Try.f3 Rows.laterFullRow.domain false) (Rows.laterFullSpec.post enc Try.prog Try.f3 false true false false) := by
  refine returnsInHanded_of_change (C := Try.checked) own started (by kernel_rfl) Try.func3
    (ChangeSpec.witness6 (enc := enc) (C := Try.checked) false ⟨#[], #[], []⟩ 8 (by kernel_rfl) (by kernel_rfl) (by kernel_rfl) (by kernel_rfl)) ?_
  intro W base args ds gs before hval0 hW hcnd _
  have hval : ∀ (j : Nat) t v, Try.f3.params[j]? = some t → args[j]? = some v → Value.okWide Try.prog W .any base t v := hval0
  have hW' := hW
  obtain ⟨p, q, hA0, hV, rfl, hfz, hnd⟩ := hW
  have hA : DataW.TrodAll enc Try.prog W 0 (fun _ => true) true Try.f3.params.toList args.toList ds p := hA0
  rw [Try.params3] at hA hval
  obtain ⟨hargs, rfl, rfl⟩ := trodAll_nil hA
  obtain rfl : args = #[] := by cases args; simp_all
  refine ((LaterFull_c (h := W.heap)  (K := fun v h' => v = .bool true ∧ Ext W.heap h') (fun h' e => ⟨rfl, e⟩)).out W rfl).mono fun e W' ⟨v, he, hs, hv, hx⟩ => ?_
  exact ⟨v, he, hv ▸ law_post laidOut (by kernel_rfl) rfl (tb := 4) (by kernel_rfl) (by kernel_rfl) hW' (fun hg => by rw [hg]; rfl) (below_of hs hx)⟩

theorem proved : Rows.LaterFullSaid :=
  OpenClaim.holds_of_wide 3 Try.f3 rfl rfl rfl rfl rfl rfl rfl ⟨rfl, rfl, rfl, rfl, rfl⟩ rfl rfl rfl rfl rfl (by kernel_rfl) Try.func3 (by kernel_rfl)
    (of_decide_eq_true (by kernel_rfl)) (by unfold Func.isWrapper; first | (rw [if_pos (by decide +kernel)]; kernel_rfl) | (rw [if_neg (by decide +kernel)]; exact ⟨rfl, rfl⟩))
    (fun os started H enc _ => lifted os started H enc)
end Go.Proofs.Ytgcllbelgakjgaa.laterFull
