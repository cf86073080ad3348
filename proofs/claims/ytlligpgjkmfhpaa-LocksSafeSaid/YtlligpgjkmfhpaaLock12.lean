/- Locks: Locks of one's own; they work. -/
import Derived.Test.YtlligpgjkmfhpaaLockD
set_option linter.unusedSimpArgs false
set_option linter.unusedVariables false
namespace Go.Proofs.Ytlligpgjkmfhpaa
open Go.Vc
variable {K : Value → Heap → Prop} {h : Heap}

/-- Locks that lie behind all that was there at o. -/
structure Lv (o h : Heap) (p : Nat) (s : Lk) : Prop where
  lks : Lks h p s
  ext : Ext o h
  foot : ∀ b, foot p s b → o.size ≤ b
  req : ∀ x ∈ s.all, o.size ≤ x.b
theorem Lv.of_ext {o h' : Heap} {p : Nat} {s : Lk} (a : Lv o h p s) (e : Ext h h') : Lv o h' p s := ⟨a.lks.ext e, a.ext.trans e, a.foot, a.req⟩

theorem New_v {o : Heap} (e : Ext o h) (H : ∀ p s h', Ext h h' → Lv o h' p s → s.H = [] → s.W = [] → s.w = .slice none 0 0 → s.tk = 0 → h.size ≤ p → h.size ≤ s.m → K (ptrV p) h') : CallsH Try.prog 8 #[] h K ⟨⟩ := by
  refine New_c fun p h' e' hs h1 h2 h3 => ?_
  have := e.size
  refine H p _ h' e' ⟨hs, e.trans e', ?_, fun x hx => by cases hx⟩ rfl rfl rfl rfl h1 (by show h.size ≤ h'.size - 2; omega)
  rintro b (rfl | rfl | hb)
  · omega
  · show o.size ≤ h'.size - 2; omega
  · cases hb

theorem Ask_v {o : Heap} {p : Nat} {s : Lk} {id a l : Int} {al : Bool} (hs : Lv o h p s) (hm : MayP id a l) (hf : findS s id = none) (hfew : s.all.length + 1 < 100000) (htk : s.tk + 1 < 100000)
    (H : ∀ b w' h', Lv o h' p (if couldS s ⟨id, a, l, al, s.tk + 1⟩ then { s with H := s.H ++ [⟨id, b, ⟨id, a, l, al, s.tk + 1⟩⟩], tk := s.tk + 1 } else { s with W := s.W ++ [⟨id, b, ⟨id, a, l, al, s.tk + 1⟩⟩], w := w', tk := s.tk + 1 }) →
      Mod (Go.Proofs.Ytlligpgjkmfhpaa.foot p s) h h' → K (.tuple #[.bool (couldS s ⟨id, a, l, al, s.tk + 1⟩), .int .i64 0]) h') :
    CallsH Try.prog 10 #[ptrV p, lockV id a l al] h K ⟨⟩ := by
  refine Ask_c hs.lks hm hf hfew htk fun b w' h' hb a1 a2 a3 => ?_
  have ho := hs.ext.size
  refine H b w' h' ⟨a1, a2.ext_from hs.ext (fun b hb hf => by have := hs.foot b hf; omega), ?_, ?_⟩ a2
  · split
    · exact fun b hb => hs.foot b hb
    · rintro b (e | e | e)
      · exact hs.foot b (.inl e)
      · exact hs.foot b (.inr (.inl e))
      · rcases a3 b e with e | e
        · exact hs.foot b (.inr (.inr e))
        · omega
  · split
    · intro x hx
      rcases List.mem_append.1 hx with e | e
      · rcases List.mem_append.1 e with e | e
        · exact hs.req x (List.mem_append_left _ e)
        · simp at e; subst e; show o.size ≤ b; omega
      · exact hs.req x (List.mem_append_right _ e)
    · intro x hx
      rcases List.mem_append.1 hx with e | e
      · exact hs.req x (List.mem_append_left _ e)
      · rcases List.mem_append.1 e with e | e
        · exact hs.req x (List.mem_append_right _ e)
        · simp at e; subst e; show o.size ≤ b; omega

/-- It holds. -/
theorem Ask_y {o : Heap} {p : Nat} {s : Lk} {id a l : Int} {al : Bool} (hs : Lv o h p s) (hm : MayP id a l) (hf : findS s id = none) (hfew : s.all.length + 1 < 100000) (htk : s.tk + 1 < 100000) (hc : couldS s ⟨id, a, l, al, s.tk + 1⟩ = true)
    (H : ∀ b h', Lv o h' p { s with H := s.H ++ [⟨id, b, ⟨id, a, l, al, s.tk + 1⟩⟩], tk := s.tk + 1 } → Mod (Go.Proofs.Ytlligpgjkmfhpaa.foot p s) h h' → K (.tuple #[.bool true, .int .i64 0]) h') :
    CallsH Try.prog 10 #[ptrV p, lockV id a l al] h K ⟨⟩ := by
  refine Ask_v hs hm hf hfew htk fun b w' h' a1 a2 => ?_
  rw [hc] at a1 ⊢
  exact H b h' a1 a2
/-- It waits. -/
theorem Ask_n {o : Heap} {p : Nat} {s : Lk} {id a l : Int} {al : Bool} (hs : Lv o h p s) (hm : MayP id a l) (hf : findS s id = none) (hfew : s.all.length + 1 < 100000) (htk : s.tk + 1 < 100000) (hc : couldS s ⟨id, a, l, al, s.tk + 1⟩ = false)
    (H : ∀ b w' h', Lv o h' p { s with W := s.W ++ [⟨id, b, ⟨id, a, l, al, s.tk + 1⟩⟩], w := w', tk := s.tk + 1 } → Mod (Go.Proofs.Ytlligpgjkmfhpaa.foot p s) h h' → K (.tuple #[.bool false, .int .i64 0]) h') :
    CallsH Try.prog 10 #[ptrV p, lockV id a l al] h K ⟨⟩ := by
  refine Ask_v hs hm hf hfew htk fun b w' h' a1 a2 => ?_
  rw [hc] at a1 ⊢
  exact H b w' h' a1 a2

theorem goF_all {H L : List Rb} {x : Rb} : x ∈ (goF H L).1 ++ (goF H L).2.1 ↔ x ∈ H ++ L := (goF_perm H L).mem_iff
theorem Done_v {o : Heap} {p : Nat} {s : Lk} {n : Int} {x : Rb} (hs : Lv o h p s) (h0 : 0 ≤ n) (h1 : n < 4096) (hf : findS s n = some (x, false))
    (H : ∀ L lv ov h', L.Perm s.W → L.Pairwise (fun x y => x.r.tk ≤ y.r.tk) → Lv o h' p { s with H := (goF (goneS s n).H L).1, W := (goF (goneS s n).H L).2.1, w := lv } → OwnT 3 1 h' ov ((goF (goneS s n).H L).2.2.map (.int .i64)) →
      Mod (Go.Proofs.Ytlligpgjkmfhpaa.foot p s) h h' → (∀ b, blkV ov = some b → h.size ≤ b) → K (.tuple #[ov, .int .i64 0]) h') :
    CallsH Try.prog 17 #[ptrV p, .int .i64 n] h K ⟨⟩ := by
  have ho := hs.ext.size
  refine Done_c hs.lks h0 h1 hf fun L lv ov h' a1 a2 a3 a4 a5 a6 a7 => H L lv ov h' a1 a2 ⟨a3, a5.ext_from hs.ext (fun b hb hf => by have := hs.foot b hf; omega), ?_, fun y hy => ?_⟩ a4 a5 a7
  · rintro b (e | e | e)
    · exact hs.foot b (.inl e)
    · exact hs.foot b (.inr (.inl e))
    · have := a6 b e; omega
  · refine hs.req y ?_
    rcases List.mem_append.1 (goF_all.1 hy) with e | e
    · exact (goneS_sub s n).subset (List.mem_append_left _ e)
    · exact List.mem_append_right _ (a1.mem_iff.1 e)

theorem num_c {n : Int} (h0 : 0 ≤ n) (h1 : n < 1000) (H : K (.int .i64 n) h) : CallsH Try.prog 11 #[.int .i64 n] h K ⟨⟩ := by
  refine n11_calls ?_
  unfold n11
  ((try (simp (disch := omega))); repeat' ((first | (refine Split.mk (fun _ => ?_) (fun _ => ?_))) <;> ((try (simp (disch := omega))))))
  all_goals exact H

set_option maxHeartbeats 4000000 in
theorem works_c (H : ∀ h', Ext h h' → K (.bool true) h') : CallsH Try.prog 7 #[] h K ⟨⟩ := by
  refine n7_calls ?_
  unfold n7
  refine New_v (.refl h) fun p s h1 e1 hs1 sH sW sw stk _ _ => ?_
  obtain ⟨m, H0, W0, w0, tk0⟩ := s
  dsimp only at sH sW sw stk
  subst sH; subst sW; subst sw; subst stk
  unfold ptrV
  simp (disch := omega)
  refine Held0_c hs1.lks rfl fun a1 c1 h2 e2 => ?_
  simp (disch := omega)
  refine Waiting0_c (hs1.of_ext e2).lks rfl fun a2 c2 h3 e3 => ?_
  have hs3 := (hs1.of_ext e2).of_ext e3
  simp (disch := omega)
  refine Ask_y (id := 1) (a := 0) (l := 10) (al := false) hs3 (by decide) rfl (by simp [Lk.all]) (by show (0 : Int) + 1 < 100000; decide) rfl fun b1 h4 hs4 m4 => ?_
  have hs4' : Lv h h4 p ⟨m, [⟨1, b1, ⟨1, 0, 10, false, 1⟩⟩], [], .slice none 0 0, 1⟩ := hs4
  simp (disch := omega)
  refine Ask_y (id := 2) (a := 5) (l := 10) (al := false) hs4' (by decide) rfl (by simp [Lk.all]) (by show (1 : Int) + 1 < 100000; decide) rfl fun b2 h5 hs5 m5 => ?_
  have hs5' : Lv h h5 p ⟨m, [⟨1, b1, ⟨1, 0, 10, false, 1⟩⟩, ⟨2, b2, ⟨2, 5, 10, false, 2⟩⟩], [], .slice none 0 0, 2⟩ := hs5
  simp (disch := omega)
  refine Ask_n (id := 3) (a := 8) (l := 1) (al := true) hs5' (by decide) rfl (by simp [Lk.all]) (by show (2 : Int) + 1 < 100000; decide) rfl fun b3 w3 h6 hs6 m6 => ?_
  have hs6' : Lv h h6 p ⟨m, [⟨1, b1, ⟨1, 0, 10, false, 1⟩⟩, ⟨2, b2, ⟨2, 5, 10, false, 2⟩⟩], [⟨3, b3, ⟨3, 8, 1, true, 3⟩⟩], w3, 3⟩ := hs6
  simp (disch := omega)
  refine Done_v (n := 1) hs6' (by decide) (by decide) rfl fun L lv ov h7 a1 a2 hs7 ov7 m7 ob7 => ?_
  have hL : L = [⟨3, b3, ⟨3, 8, 1, true, 3⟩⟩] := List.perm_singleton.1 a1
  subst hL
  have hs7' : Lv h h7 p ⟨m, [⟨2, b2, ⟨2, 5, 10, false, 2⟩⟩], [⟨3, b3, ⟨3, 8, 1, true, 3⟩⟩], lv, 3⟩ := hs7
  have ov7' : OwnT 3 1 h7 ov [] := ov7
  simp (disch := omega)
  refine Done_v (n := 2) hs7' (by decide) (by decide) rfl fun L lv2 ov2 h8 a3 a4 hs8 ov8 m8 ob8 => ?_
  have hL : L = [⟨3, b3, ⟨3, 8, 1, true, 3⟩⟩] := List.perm_singleton.1 a3
  subst hL
  have ov8' : OwnT 3 1 h8 ov2 [.int .i64 3] := ov8
  obtain ⟨q1, n1, z1, e1', hn1, hz1, -⟩ := ov7'.form (by omega)
  obtain ⟨q2, n2, z2, e2', hn2, hz2, hne2⟩ := ov8'.form (by omega)
  have k1 : n1 = 0 := by simpa using hn1.symm
  have k2 : n2 = 1 := by simpa using hn2.symm
  rw [k1] at e1'
  rw [k2] at e2'
  obtain ⟨bb, hb⟩ := hne2 (by simp)
  rw [hb] at e2'
  have hc := e2' ▸ ov8'
  have hcl : hcell h8 ⟨bb, 0, none⟩ = some (.int .i64 3) := (hc.cell (i := 0) (by simp)).1
  simp (disch := omega) [e1', e2']
  iterate 5 (refine num_c (by omega) (by omega) ?_; try simp (disch := omega))
  simp (disch := omega) [hcl, e1', e2']
  exact H _ hs8.ext
end Go.Proofs.Ytlligpgjkmfhpaa
