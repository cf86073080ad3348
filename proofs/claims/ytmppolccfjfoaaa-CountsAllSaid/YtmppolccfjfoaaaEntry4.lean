import Derived.Test.YtmppolccfjfoaaaEntry3
set_option linter.unusedSimpArgs false
set_option linter.unusedVariables false
namespace Go.Proofs.Ytmppolccfjfoaaa
open Go.Vc
variable {K : Value → Heap → Prop} {h : Heap}

theorem May_d {k p l b : Int} (H : ∀ h' c, Ext h h' → (c = true ↔ MayE k p l b) → K (.bool c) h') : CallsH Try.prog 15 #[.agg #[.int .i64 k, .int .i64 p, .int .i64 l], .int .i64 b] h K ⟨⟩ :=
  May_c (fun h' e m => H h' true e (by simp [m])) (fun h' e m => H h' false e (by simp [m]))
theorem Word_d {k p l b : Int} (hl : -9223372036854775808 ≤ l ∧ l < 9223372036854775808) (H : ∀ h' w c, Ext h h' → (MayE k p l b ∧ w = wordE k p l ∧ c = 0 ∨ ¬ MayE k p l b ∧ w = 0 ∧ c = 2) → K (.tuple #[.int .u64 w, .int .i64 c]) h') : CallsH Try.prog 16 #[.agg #[.int .i64 k, .int .i64 p, .int .i64 l], .int .i64 b] h K ⟨⟩ :=
  Word_c hl (fun h' e m => H h' _ _ e (.inl ⟨m, rfl, rfl⟩)) (fun h' e m => H h' _ _ e (.inr ⟨m, rfl, rfl⟩))

theorem wordE_inj {k p l k' p' l' b : Int} (m : MayE k p l b) (m' : MayE k' p' l' b) (e : wordE k' p' l' = wordE k p l) : k' = k ∧ p' = p ∧ l' = l := by
  have i := wordE_inv m rfl
  have j := wordE_inv m' e
  have bd := may_bd m
  have k2 : k' = k := by omega
  have : k = 0 ∨ k = 1 ∨ k = 2 ∨ k = 3 := by omega
  rcases this with x | x | x | x
  · have := i.2.2.2.2.2.1 x; have := j.2.2.2.2.2.1 (by omega); omega
  · have := i.2.2.2.2.2.2 x; have := j.2.2.2.2.2.2 (by omega); omega
  · have := i.2.2.2.1 x; have := j.2.2.2.1 (by omega); omega
  · have := i.2.2.2.2.1 x; have := j.2.2.2.2.1 (by omega); omega

set_option maxHeartbeats 4000000 in
theorem EntryWords_c {k p l w b : Int} (hl : -9223372036854775808 ≤ l ∧ l < 9223372036854775808) (w0 : 0 ≤ w) (w1 : w < 18446744073709551616) (H : ∀ h', Ext h h' → K (.bool true) h') :
    CallsH Try.prog 3 #[.agg #[.int .i64 k, .int .i64 p, .int .i64 l], .int .u64 w, .int .i64 b] h K ⟨⟩ := by
  refine n3_calls ?_
  unfold n3
  simp (disch := omega) [Hp_box, Value.cells]
  refine May_d (fun h1 c e1 hc => ?_)
  have ce1 := ext_cell e1 rfl; have fe1 := ext_frz e1 rfl; have se1 := (e1).size; (try simp only [Array.size_push, hset_size] at ce1); (try simp only [Array.size_push, hset_size] at fe1); (try simp only [Array.size_push, hset_size] at se1)
  simp (disch := omega) [ce1, fe1]
  refine Word_d hl (fun h2 g d e2 hw => ?_)
  have l2 := e1.trans e2
  simp (disch := omega)
  refine JoinN_in0 (fun h' => Ext h h') (fun kk hk => ?_) (fun h3 e3 => ?_)
  · have cl2 := ext_cell l2 rfl; have fl2 := ext_frz l2 rfl; have sl2 := (l2).size; (try simp only [Array.size_push, hset_size] at cl2); (try simp only [Array.size_push, hset_size] at fl2); (try simp only [Array.size_push, hset_size] at sl2)
    cases c
    · have m : ¬ MayE k p l b := fun m => by simp [m] at hc
      rcases hw with ⟨m', _⟩ | ⟨_, rfl, rfl⟩
      · exact absurd m' m
      simp (disch := omega) [cl2, fl2]
      refine Check_c hl (fun h' e m' => absurd m' m) (fun h4 e4 _ => ?_)
      simp (disch := omega)
      exact hk _ (by repeat' (first | (with_reducible exact Ext.refl _) | (with_reducible assumption) | (with_reducible refine push_ext ?_) | (with_reducible refine hset_ext ?_ ?_) | (with_reducible refine Ext.trans ?_ (by assumption)) | omega | (simp; done) | (simp; omega) | (refine Ext.size ?_) | (refine Nat.le_succ_of_le (Ext.size ?_))))
    · have m : MayE k p l b := hc.1 rfl
      rcases hw with ⟨_, rfl, rfl⟩ | ⟨m', _⟩
      case inr => exact absurd m m'
      simp (disch := omega)
      have bd := wordE_inv m rfl
      refine Of_c bd.1 (by omega) ?_ ?_ ?_
      · intro n; have := may_bd m; omega
      · intro k' p' l' m' e' h4 e4
        have q := wordE_inj m m' e'
        have q1 := q.1
        have q2 := q.2.1
        have q3 := q.2.2
        have l4 := l2.trans e4
        have cl4 := ext_cell l4 rfl; have fl4 := ext_frz l4 rfl; have sl4 := (l4).size; (try simp only [Array.size_push, hset_size] at cl4); (try simp only [Array.size_push, hset_size] at fl4); (try simp only [Array.size_push, hset_size] at sl4)
        simp (disch := omega) [cl4, fl4]
        refine Check_c hl (fun h5 e5 _ => ?_) (fun _ _ m' => absurd m m')
        have ce5 := ext_cell e5 rfl; have fe5 := ext_frz e5 rfl; have se5 := (e5).size; (try simp only [Array.size_push, hset_size] at ce5); (try simp only [Array.size_push, hset_size] at fe5); (try simp only [Array.size_push, hset_size] at se5)
        simp (disch := omega) [ce5, fe5, cl4, fl4]
        refine RefWord_c m (fun h6 e6 => ?_)
        have l6 := e5.trans e6
        have cl6 := ext_cell l6 rfl; have fl6 := ext_frz l6 rfl; have sl6 := (l6).size; (try simp only [Array.size_push, hset_size] at cl6); (try simp only [Array.size_push, hset_size] at fl6); (try simp only [Array.size_push, hset_size] at sl6)
        simp (disch := omega) [cl6, fl6, cl4, fl4, q1, q2, q3]
        exact hk _ (by repeat' (first | (with_reducible exact Ext.refl _) | (with_reducible assumption) | (with_reducible refine push_ext ?_) | (with_reducible refine hset_ext ?_ ?_) | (with_reducible refine Ext.trans ?_ (by assumption)) | omega | (simp; done) | (simp; omega) | (refine Ext.size ?_) | (refine Nat.le_succ_of_le (Ext.size ?_))))
      · intro _ _ n
        exact absurd rfl (n k p l m)
  · refine Of_c w0 w1 ?_ ?_ ?_
    · intro n h4 e4
      simp (disch := omega)
      refine Bits_c (fun _ _ => by omega) (fun _ => ?_)
      simp (disch := omega)
      refine Known_c (fun h5 e5 => ?_)
      simp (disch := omega)
      exact H _ (by repeat' (first | (with_reducible exact Ext.refl _) | (with_reducible assumption) | (with_reducible refine push_ext ?_) | (with_reducible refine hset_ext ?_ ?_) | (with_reducible refine Ext.trans ?_ (by assumption)) | omega | (simp; done) | (simp; omega) | (refine Ext.size ?_) | (refine Nat.le_succ_of_le (Ext.size ?_))))
    · intro k' p' l' m e h4 e4
      have bd := may_bd m
      have l4 := e3.trans e4
      simp (disch := omega)
      refine Bits_c (fun _ _ => ?_) (fun n => by omega)
      simp (disch := omega)
      refine RefOf_c w0 w1 bd.1 bd.2.1 (fun k2 p2 l2 m2 e2 h5 e5 => ?_) (fun n => absurd e (n _ _ _ m))
      have q : wordE k2 p2 l2 = wordE k' p' l' := e2.trans e.symm
      have q := wordE_inj m m2 q
      have q1 := q.1
      have q2 := q.2.1
      have q3 := q.2.2
      have ce5 := ext_cell e5 rfl; have fe5 := ext_frz e5 rfl; have se5 := (e5).size; (try simp only [Array.size_push, hset_size] at ce5); (try simp only [Array.size_push, hset_size] at fe5); (try simp only [Array.size_push, hset_size] at se5)
      simp (disch := omega) [ce5, fe5]
      refine Word_c (by omega) (fun h6 e6 _ => ?_) (fun _ _ n => absurd m n)
      have ce6 := ext_cell e6 rfl; have fe6 := ext_frz e6 rfl; have se6 := (e6).size; (try simp only [Array.size_push, hset_size] at ce6); (try simp only [Array.size_push, hset_size] at fe6); (try simp only [Array.size_push, hset_size] at se6)
      simp (disch := omega) [ce6, fe6, ce5, fe5, e, q1, q2, q3]
      refine Known_c (fun h7 e7 => ?_)
      simp (disch := omega)
      exact H _ (by repeat' (first | (with_reducible exact Ext.refl _) | (with_reducible assumption) | (with_reducible refine push_ext ?_) | (with_reducible refine hset_ext ?_ ?_) | (with_reducible refine Ext.trans ?_ (by assumption)) | omega | (simp; done) | (simp; omega) | (refine Ext.size ?_) | (refine Nat.le_succ_of_le (Ext.size ?_))))
    · intro b0 b1 n h4 e4
      have l4 := e3.trans e4
      simp (disch := omega)
      refine Bits_c (fun _ _ => ?_) (fun n => by omega)
      simp (disch := omega)
      refine RefOf_c w0 w1 b0 b1 (fun k2 p2 l2 m2 e2 h5 e5 => absurd e2 (n _ _ _ m2)) (fun _ h5 e5 => ?_)
      have ce5 := ext_cell e5 rfl; have fe5 := ext_frz e5 rfl; have se5 := (e5).size; (try simp only [Array.size_push, hset_size] at ce5); (try simp only [Array.size_push, hset_size] at fe5); (try simp only [Array.size_push, hset_size] at se5)
      simp (disch := omega) [ce5, fe5]
      refine Known_c (fun h7 e7 => ?_)
      simp (disch := omega)
      exact H _ (by repeat' (first | (with_reducible exact Ext.refl _) | (with_reducible assumption) | (with_reducible refine push_ext ?_) | (with_reducible refine hset_ext ?_ ?_) | (with_reducible refine Ext.trans ?_ (by assumption)) | omega | (simp; done) | (simp; omega) | (refine Ext.size ?_) | (refine Nat.le_succ_of_le (Ext.size ?_))))
end Go.Proofs.Ytmppolccfjfoaaa
