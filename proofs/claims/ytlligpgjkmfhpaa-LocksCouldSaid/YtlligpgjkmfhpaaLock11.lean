/- Locks: who holds and who waits where there are none. -/
import Derived.Test.YtlligpgjkmfhpaaLock10
set_option linter.unusedSimpArgs false
set_option linter.unusedVariables false
namespace Go.Proofs.Ytlligpgjkmfhpaa
open Go.Vc
variable {K : Value → Heap → Prop} {h : Heap}

set_option maxRecDepth 20000 in
theorem bits0_c (H : K (.int .i64 0) h) : CallsH Try.prog 53 #[.int .u64 0] h K ⟨⟩ := by
  refine n53_calls ?_
  unfold n53
  simp (disch := omega)
  refine n67_calls ?_
  unfold n67
  simp (disch := omega)
  refine JoinN.mk ?_
  simp (disch := omega)
  refine JoinN.mk ?_
  simp (disch := omega)
  refine JoinN.mk ?_
  simp (disch := omega)
  refine (Hp_indexStr (l := _) (b := 0) (by kernel_rfl) (by omega) (by kernel_rfl)).2 ?_
  simp (disch := omega)
  exact H

theorem SortNil_c {f : Value} (H : K (.tuple #[]) h) : CallsH Try.prog 54 #[.slice none 0 0, f] h K ⟨⟩ := by
  refine n54_calls ?_
  unfold n54
  simp (disch := omega)
  refine bits0_c ?_
  refine n68_calls ?_
  unfold n68
  refine loopA5 (fun _ : Unit => .int .i64 0) (fun _ => .int .i64 0) (fun _ => .int .i64 0) (fun _ => .bool true) (fun _ => .bool true) (fun _ g => g = h) (fun _ => 0) () ⟨rfl, rfl, rfl, rfl, rfl⟩ rfl ?_
  rintro _ g rfl
  refine JoinN.mk ?_
  simp (disch := omega)
  refine n75_calls ?_
  unfold n75
  simp (disch := omega)
  refine loopA1 (fun _ : Unit => .int .i64 1) (fun _ g' => g' = g) (fun _ => 0) () rfl rfl ?_
  rintro _ g rfl
  simp (disch := omega)
  exact H

theorem locksNil_c {f : Value} (H : ∀ a h', Ext h h' → K (.func a #[] #[ptrV h.size]) h') : CallsH Try.prog 39 #[.slice none 0 0, f] h K ⟨⟩ := by
  refine n39_calls ?_
  unfold n39
  refine SortNil_c ?_
  simp (disch := omega)
  refine loopA2 (fun _ : Unit => .slice none 0 0) (fun _ => .int .i64 0) (fun _ g => g = h) (fun _ => 0) () ⟨rfl, rfl⟩ rfl ?_
  rintro _ g rfl
  simp (disch := omega)
  refine n55_calls ?_
  unfold n55
  simp (disch := omega)
  exact H _ _ (by repeat' (first | (with_reducible exact Ext.refl _) | (with_reducible assumption) | (with_reducible refine push_ext ?_) | (with_reducible refine hset_ext ?_ ?_) | (with_reducible refine Ext.trans ?_ (by assumption)) | omega | (simp; done) | (simp; omega) | (refine Ext.size ?_) | (refine Nat.le_succ_of_le (Ext.size ?_))))

theorem Held0_c {p : Nat} {s : Lk} (hs : Lks h p s) (h0 : s.H = []) (H : ∀ a c h', Ext h h' → K (.func a #[] #[c]) h') : CallsH Try.prog 23 #[ptrV p] h K ⟨⟩ := by
  refine n23_calls ?_
  unfold n23
  refine JoinN_in1 (fun w g => w = .slice none 0 0 ∧ Ext h g) (fun kk hkk => ?_) (fun w g hw => ?_)
  · refine none_c (m := undef) hs.cells ?_
    have c0 := cellOf (i := 0) hs.cells rfl
    unfold ptrV
    simp (disch := omega) [c0]
    have hm := hs.map
    rw [h0] at hm
    refine Hp_rangeM (by kernel_rfl) hm fun h1 e1 hit hs1 => ?_
    refine loopMap1 (fun _ : Unit => .slice none 0 0) (fun I _ g => Ext h g) () hit rfl e1 ?_
    rintro I _ g hI hn hlt e2 X hX
    refine Hp_next hI (fun i hi => absurd hi (Nat.not_lt_zero _)) (fun _ => ?_)
    simp (disch := omega)
    exact hkk _ _ ⟨rfl, e2⟩
  · obtain ⟨rfl, e⟩ := hw
    exact locksNil_c fun a h' e' => H _ _ h' (e.trans e')

theorem Waiting0_c {p : Nat} {s : Lk} (hs : Lks h p s) (h0 : s.w = .slice none 0 0) (H : ∀ a c h', Ext h h' → K (.func a #[] #[c]) h') : CallsH Try.prog 24 #[ptrV p] h K ⟨⟩ := by
  refine n24_calls ?_
  unfold n24
  refine JoinN_in1 (fun w g => w = .slice none 0 0 ∧ Ext h g) (fun kk hkk => ?_) (fun w g hw => ?_)
  · refine none_c (m := undef) hs.cells ?_
    have c1 := cellOf (i := 1) hs.cells rfl
    rw [h0] at c1
    unfold ptrV
    simp (disch := omega) [c1]
    refine n42_calls ?_
    unfold n42
    simp (disch := omega)
    exact hkk _ _ ⟨rfl, .refl _⟩
  · obtain ⟨rfl, e⟩ := hw
    exact locksNil_c fun a h' e' => H _ _ h' (e.trans e')
end Go.Proofs.Ytlligpgjkmfhpaa
