/- Locks: which one; how many; one is done, comes to be alone, shares again. -/
import Derived.Test.YtlligpgjkmfhpaaLock8
set_option linter.unusedSimpArgs false
set_option linter.unusedVariables false
namespace Go.Proofs.Ytlligpgjkmfhpaa
open Go.Vc
variable {K : Value → Heap → Prop} {h : Heap}

theorem findS_held {s : Lk} {n : Int} {x : Rb} (hf : findS s n = some (x, false)) : x ∈ s.H ∧ x.key = n := by
  unfold findS at hf
  split at hf
  · rename_i y hy
    cases hf
    exact ⟨List.mem_of_find?_eq_some hy, by simpa using List.find?_some hy⟩
  · split at hf <;> cases hf

/-- One that holds. -/
theorem which_c {p : Nat} {s : Lk} {n : Int} {x : Rb} {w : Bool} (hs : LkAt h p s) (h0 : 0 ≤ n) (h1 : n < 4096) (hf : findS s n = some (x, w)) (H : ∀ h', Ext h h' → K (.tuple #[ptrV x.b, .bool w, .int .i64 0]) h') :
    CallsH Try.prog 31 #[ptrV p, .int .i64 n] h K ⟨⟩ := by
  refine n31_calls ?_
  unfold n31
  refine none_c (m := undef) hs.cells ?_
  simp (disch := omega)
  refine id_c ?_
  rw [decide_eq_true (show 0 ≤ n ∧ n < 4096 from ⟨h0, h1⟩)]
  simp (disch := omega)
  refine find_c hs fun h' e => ?_
  rw [hf]
  unfold findV ptrV
  simp (disch := omega)
  exact H h' e

theorem Len_c {p : Nat} {s : Lk} (hs : LkAt h p s) (H : K (.tuple #[.int .i64 s.H.length, .int .i64 s.W.length]) h) : CallsH Try.prog 14 #[ptrV p] h K ⟨⟩ := by
  refine n14_calls ?_
  unfold n14
  refine none_c (m := undef) hs.cells ?_
  unfold ptrV
  have c0 := cellOf hs.cells (i := 0) rfl
  have c1 := cellOf hs.cells (i := 1) rfl
  obtain ⟨a, c, hv, hc, hne⟩ := hs.line.form
  rw [hv] at c1
  simp (disch := omega) [c0, c1, Hp_lenMap (P := Try.prog) (t := 53) hs.map (by kernel_rfl)]
  have : (mapL s.H).length = s.H.length := by simp [mapL]
  rw [this]
  exact H

theorem del_mapL (n : Int) : ∀ H : List Rb, (H.map (·.key)).Nodup → del n (mapL H) = mapL (H.filter fun x => !decide (x.key = n))
  | [], _ => rfl
  | x :: H, hn => by
    have hn' := (List.nodup_cons.1 hn)
    have ih := del_mapL n H hn'.2
    unfold mapL at *
    rw [List.map_cons, del, List.filter_cons]
    by_cases e : n = x.key
    · subst e
      have : H.filter (fun y => !decide (y.key = x.key)) = H := List.filter_eq_self.2 fun y hy => by
        have : y.key ≠ x.key := fun e => hn'.1 (List.mem_map.2 ⟨y, hy, e⟩)
        simp [this]
      simp [this]
    · simp [e, ih, Ne.symm e]

/-- A request that holds is let go. -/
def goneS (s : Lk) (n : Int) : Lk := { s with H := s.H.filter fun x => !decide (x.key = n) }
theorem goneS_sub (s : Lk) (n : Int) : (goneS s n).all.Sublist s.all := List.Sublist.append List.filter_sublist (.refl _)

theorem Done_c {p : Nat} {s : Lk} {n : Int} {x : Rb} (hs : Lks h p s) (h0 : 0 ≤ n) (h1 : n < 4096) (hf : findS s n = some (x, false))
    (H : ∀ L lv ov h', L.Perm s.W → L.Pairwise (fun x y => x.r.tk ≤ y.r.tk) → Lks h' p { s with H := (goF (goneS s n).H L).1, W := (goF (goneS s n).H L).2.1, w := lv } → OwnT 3 1 h' ov ((goF (goneS s n).H L).2.2.map (.int .i64)) →
      Mod (foot p s) h h' → (∀ b, blkV lv = some b → h.size ≤ b) → (∀ b, blkV ov = some b → h.size ≤ b) → K (.tuple #[ov, .int .i64 0]) h') :
    CallsH Try.prog 17 #[ptrV p, .int .i64 n] h K ⟨⟩ := by
  refine n17_calls ?_
  unfold n17
  refine which_c hs.toLkAt h0 h1 hf fun g1 e1 => ?_
  have hs1 := hs.ext e1
  have c0 := cellOf hs1.cells (i := 0) rfl
  simp only [Hp_extract0, Hp_extract1, Hp_extract2]
  refine JoinN_in0 (fun g => Lks g p (goneS s n) ∧ Mod (foot p s) h g) (fun kk hkk => ?_) (fun g hg => ?_)
  · refine JoinN.mk ?_
    unfold ptrV
    simp (disch := omega) [c0]
    refine Hp_delete lockKey hs1.map fun g2 hm2 m2 => ?_
    rw [del_mapL n s.H (by have := hs.keys; unfold Lk.all at this; rw [List.map_append] at this; exact (List.nodup_append.1 this).1)] at hm2
    have nm : ∀ {b : Nat} {arr : Array Value} {t : Go.TypeId}, g1[b]? = some (.cells arr t) → b ≠ s.m := fun {b arr t} hb e => by
      obtain ⟨es, cl, h3, _⟩ := hs1.map
      rw [e] at hb
      rw [hb] at h3; cases h3
    have sub := goneS_sub s n
    refine hkk _ ⟨⟨⟨(m2.block p (get_some_lt hs1.cells) (nm hs1.cells)).trans hs1.cells, hm2, hs1.row.mod m2 (fun b hb e => by obtain ⟨arr, ha⟩ := hs1.row.tag hb; exact nm ha e), fun y hy => ?_, hs.blks.sublist (sub.map _), hs.keys.sublist (sub.map _), Nat.lt_of_le_of_lt sub.length_le hs.few⟩, fun y hy => hs.tks y (sub.subset hy), hs.tkb, hs.ord⟩, (Mod.of_ext e1).trans m2 (fun _ _ e => .inr (.inl e))⟩
    have hr := hs1.rq y (sub.subset hy)
    exact ⟨hr.1.mod m2 (nm hr.1.1), hr.2⟩
  · obtain ⟨hs2, m2⟩ := hg
    refine goOn_c hs2 fun L lv ov h' a1 a2 a3 a4 a5 a6 a7 => ?_
    exact H L lv ov h' a1 a2 a3 a4 (m2.trans a5 (fun _ _ e => e)) (fun b hb => Nat.le_trans m2.size (a6 b hb)) (fun b hb => Nat.le_trans m2.size (a7 b hb))
end Go.Proofs.Ytlligpgjkmfhpaa
