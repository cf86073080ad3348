/- Locks: which one; how many; one is done, comes to be alone, shares again. Locks: to be alone; to share again. Locks: who holds and who waits where there are none. -/
import Derived.Test.YtlligpgjkmfhpaaLockC
set_option linter.unusedSimpArgs false
set_option linter.unusedVariables false
namespace Go.Proofs.Ytlligpgjkmfhpaa
open Go.Vc
variable {K : Value → Heap → Prop} {h : Heap}

theorem findS_held {s : Lk} {n : Int} {x : Rb} (hf : findS s n = some (x, false)) : x ∈ s.H ∧ x.key = n := by
  unfold findS at hf
  split at hf
  · rename_i y hy
    cases hf
    exact ⟨List.mem_of_find?_eq_some hy, by simpa using List.find?_some hy⟩
  · split at hf <;> cases hf

/-- One that holds. -/
theorem which_c {p : Nat} {s : Lk} {n : Int} {x : Rb} {w : Bool} (hs : LkAt h p s) (h0 : 0 ≤ n) (h1 : n < 4096) (hf : findS s n = some (x, w)) (H : ∀ h', Ext h h' → K (.tuple #[ptrV x.b, .bool w, .int .i64 0]) h') :
    CallsH Try.prog 31 #[ptrV p, .int .i64 n] h K ⟨⟩ := by
  refine n31_calls ?_
  unfold n31
  refine none_c (m := undef) hs.cells ?_
  simp (disch := omega)
  refine id_c ?_
  rw [decide_eq_true (show 0 ≤ n ∧ n < 4096 from ⟨h0, h1⟩)]
  simp (disch := omega)
  refine find_c hs fun h' e => ?_
  rw [hf]
  unfold findV ptrV
  simp (disch := omega)
  exact H h' e

theorem Len_c {p : Nat} {s : Lk} (hs : LkAt h p s) (H : K (.tuple #[.int .i64 s.H.length, .int .i64 s.W.length]) h) : CallsH Try.prog 14 #[ptrV p] h K ⟨⟩ := by
  refine n14_calls ?_
  unfold n14
  refine none_c (m := undef) hs.cells ?_
  unfold ptrV
  have c0 := cellOf hs.cells (i := 0) rfl
  have c1 := cellOf hs.cells (i := 1) rfl
  obtain ⟨a, c, hv, hc, hne⟩ := hs.line.form
  rw [hv] at c1
  simp (disch := omega) [c0, c1, Hp_lenMap (P := Try.prog) (t := 53) hs.map (by kernel_rfl)]
  have : (mapL s.H).length = s.H.length := by simp [mapL]
  rw [this]
  exact H

theorem del_mapL (n : Int) : ∀ H : List Rb, (H.map (·.key)).Nodup → del n (mapL H) = mapL (H.filter fun x => !decide (x.key = n))
  | [], _ => rfl
  | x :: H, hn => by
    have hn' := (List.nodup_cons.1 hn)
    have ih := del_mapL n H hn'.2
    unfold mapL at *
    rw [List.map_cons, del, List.filter_cons]
    by_cases e : n = x.key
    · subst e
      have : H.filter (fun y => !decide (y.key = x.key)) = H := List.filter_eq_self.2 fun y hy => by
        have : y.key ≠ x.key := fun e => hn'.1 (List.mem_map.2 ⟨y, hy, e⟩)
        simp [this]
      simp [this]
    · simp [e, ih, Ne.symm e]

/-- A request that holds is let go. -/
def goneS (s : Lk) (n : Int) : Lk := { s with H := s.H.filter fun x => !decide (x.key = n) }
theorem goneS_sub (s : Lk) (n : Int) : (goneS s n).all.Sublist s.all := List.Sublist.append List.filter_sublist (.refl _)

theorem Done_c {p : Nat} {s : Lk} {n : Int} {x : Rb} (hs : Lks h p s) (h0 : 0 ≤ n) (h1 : n < 4096) (hf : findS s n = some (x, false))
    (H : ∀ L lv ov h', L.Perm s.W → L.Pairwise (fun x y => x.r.tk ≤ y.r.tk) → Lks h' p { s with H := (goF (goneS s n).H L).1, W := (goF (goneS s n).H L).2.1, w := lv } → OwnT 3 1 h' ov ((goF (goneS s n).H L).2.2.map (.int .i64)) →
      Mod (foot p s) h h' → (∀ b, blkV lv = some b → h.size ≤ b) → (∀ b, blkV ov = some b → h.size ≤ b) → K (.tuple #[ov, .int .i64 0]) h') :
    CallsH Try.prog 17 #[ptrV p, .int .i64 n] h K ⟨⟩ := by
  refine n17_calls ?_
  unfold n17
  refine which_c hs.toLkAt h0 h1 hf fun g1 e1 => ?_
  have hs1 := hs.ext e1
  have c0 := cellOf hs1.cells (i := 0) rfl
  simp only [Hp_extract0, Hp_extract1, Hp_extract2]
  refine JoinN_in0 (fun g => Lks g p (goneS s n) ∧ Mod (foot p s) h g) (fun kk hkk => ?_) (fun g hg => ?_)
  · refine JoinN.mk ?_
    unfold ptrV
    simp (disch := omega) [c0]
    refine Hp_delete lockKey hs1.map fun g2 hm2 m2 => ?_
    rw [del_mapL n s.H (by have := hs.keys; unfold Lk.all at this; rw [List.map_append] at this; exact (List.nodup_append.1 this).1)] at hm2
    have nm : ∀ {b : Nat} {arr : Array Value} {t : Go.TypeId}, g1[b]? = some (.cells arr t) → b ≠ s.m := fun {b arr t} hb e => by
      obtain ⟨es, cl, h3, _⟩ := hs1.map
      rw [e] at hb
      rw [hb] at h3; cases h3
    have sub := goneS_sub s n
    refine hkk _ ⟨⟨⟨(m2.block p (get_some_lt hs1.cells) (nm hs1.cells)).trans hs1.cells, hm2, hs1.row.mod m2 (fun b hb e => by obtain ⟨arr, ha⟩ := hs1.row.tag hb; exact nm ha e), fun y hy => ?_, hs.blks.sublist (sub.map _), hs.keys.sublist (sub.map _), Nat.lt_of_le_of_lt sub.length_le hs.few⟩, fun y hy => hs.tks y (sub.subset hy), hs.tkb, hs.ord⟩, (Mod.of_ext e1).trans m2 (fun _ _ e => .inr (.inl e))⟩
    have hr := hs1.rq y (sub.subset hy)
    exact ⟨hr.1.mod m2 (nm hr.1.1), hr.2⟩
  · obtain ⟨hs2, m2⟩ := hg
    refine goOn_c hs2 fun L lv ov h' a1 a2 a3 a4 a5 a6 a7 => ?_
    exact H L lv ov h' a1 a2 a3 a4 (m2.trans a5 (fun _ _ e => e)) (fun b hb => Nat.le_trans m2.size (a6 b hb)) (fun b hb => Nat.le_trans m2.size (a7 b hb))
end Go.Proofs.Ytlligpgjkmfhpaa
set_option linter.unusedSimpArgs false
set_option linter.unusedVariables false
namespace Go.Proofs.Ytlligpgjkmfhpaa
open Go.Vc
variable {K : Value → Heap → Prop} {h : Heap}

theorem inj_on_of_nodup_map {α β : Type} {f : α → β} : ∀ {l : List α}, (l.map f).Nodup → ∀ {x y : α}, x ∈ l → y ∈ l → f x = f y → x = y
  | [], _, x, _, hx, _, _ => absurd hx (by simp)
  | a :: l, hn, x, y, hx, hy, e => by
    have hn' := List.nodup_cons.1 hn
    rcases List.mem_cons.1 hx with h1 | h1 <;> rcases List.mem_cons.1 hy with h2 | h2
    · rw [h1, h2]
    · exact absurd (h1 ▸ e ▸ List.mem_map_of_mem h2) hn'.1
    · exact absurd (h2 ▸ e ▸ List.mem_map_of_mem h1) hn'.1
    · exact inj_on_of_nodup_map hn'.2 h1 h2 e
def Rq.set (r : Rq) (v : Bool) : Rq := ⟨r.id, r.at_, r.len, v, r.tk⟩
def Rb.set (n : Int) (v : Bool) (y : Rb) : Rb := if y.key = n then ⟨y.key, y.b, y.r.set v⟩ else y
def setAl (s : Lk) (n : Int) (v : Bool) : Lk := { s with H := s.H.map (Rb.set n v) }
theorem Rb.set_b {n : Int} {v : Bool} {y : Rb} : (y.set n v).b = y.b := by unfold Rb.set; split <;> rfl
theorem Rb.set_key {n : Int} {v : Bool} {y : Rb} : (y.set n v).key = y.key := by unfold Rb.set; split <;> rfl
theorem Rb.set_tk {n : Int} {v : Bool} {y : Rb} : (y.set n v).r.tk = y.r.tk := by unfold Rb.set; split <;> rfl
theorem mapL_set {n : Int} {v : Bool} {H : List Rb} : mapL (H.map (Rb.set n v)) = mapL H := by
  unfold mapL
  rw [List.map_map]
  refine List.map_congr_left fun y _ => ?_
  simp [Rb.set_b, Rb.set_key]
theorem Lks.setAl {p : Nat} {s : Lk} {n : Int} {x : Rb} {v : Bool} (hs : Lks h p s) (hx : x ∈ s.H) (hk : x.key = n) : Lks (hset h ⟨x.b, 3, none⟩ (.bool v)) p (setAl s n v) := by
  have m : Mod (· = x.b) h (hset h ⟨x.b, 3, none⟩ (.bool v)) := Mod.set h ⟨x.b, 3, none⟩ _
  have hxa : x ∈ s.all := List.mem_append_left _ hx
  have hr := hs.rq x hxa
  have np : ∀ b, foot p s b → ¬ b = x.b := fun b hb e => hs.toLkAt.apart hr.1.1 hb e.symm
  have hWk : ∀ y ∈ s.W, y.b ≠ x.b ∧ y.key ≠ n := fun y hy => by
    have b := hs.blks
    have k := hs.keys
    unfold Lk.all at b k
    rw [List.map_append, List.nodup_append] at b k
    exact ⟨fun e => b.2.2 x.b (List.mem_map_of_mem hx) y.b (List.mem_map_of_mem hy) e.symm, fun e => k.2.2 x.key (List.mem_map_of_mem hx) y.key (List.mem_map_of_mem hy) (hk.trans e.symm)⟩
  have hb : (Go.Proofs.Ytlligpgjkmfhpaa.setAl s n v).all.map (·.b) = s.all.map (·.b) := by
    unfold Go.Proofs.Ytlligpgjkmfhpaa.setAl Lk.all
    simp only [List.map_append, List.map_map]
    congr 1
    exact List.map_congr_left fun y _ => Rb.set_b
  have hky : (Go.Proofs.Ytlligpgjkmfhpaa.setAl s n v).all.map (·.key) = s.all.map (·.key) := by
    unfold Go.Proofs.Ytlligpgjkmfhpaa.setAl Lk.all
    simp only [List.map_append, List.map_map]
    congr 1
    exact List.map_congr_left fun y _ => Rb.set_key
  have hl : (Go.Proofs.Ytlligpgjkmfhpaa.setAl s n v).all.length = s.all.length := by simpa using congrArg List.length hb
  refine ⟨⟨(m.block p (get_some_lt hs.cells) (np _ (.inl rfl))).trans hs.cells, ?_, hs.row.mod m (fun b hb => np _ (.inr (.inr hb))), fun y hy => ?_, by rw [hb]; exact hs.blks, by rw [hky]; exact hs.keys, by rw [hl]; exact hs.few⟩, fun y hy => ?_, hs.tkb, hs.ord⟩
  · show MapK (.int .i64) _ s.m (mapL (s.H.map (Rb.set n v)))
    rw [mapL_set]
    exact hs.map.mod m (np _ (.inr (.inl rfl)))
  · rcases List.mem_append.1 hy with e | e
    · obtain ⟨z, hz, rfl⟩ := List.mem_map.1 e
      have hrz := hs.rq z (List.mem_append_left _ hz)
      by_cases hzk : z.key = n
      · have hzx : z = x := by
          have k := hs.keys
          unfold Lk.all at k
          rw [List.map_append, List.nodup_append] at k
          exact inj_on_of_nodup_map k.1 hz hx (hzk.trans hk.symm)
        subst hzx
        have e1 : Rb.set n v z = ⟨z.key, z.b, z.r.set v⟩ := by unfold Rb.set; rw [if_pos hzk]
        rw [e1]
        refine ⟨⟨?_, hrz.1.2⟩, hrz.2⟩
        exact obj_set hrz.1.1
      · have e1 : Rb.set n v z = z := by unfold Rb.set; rw [if_neg hzk]
        rw [e1]
        refine ⟨hrz.1.mod m (fun e => ?_), hrz.2⟩
        have b := hs.blks
        unfold Lk.all at b
        rw [List.map_append, List.nodup_append] at b
        have : z = x := inj_on_of_nodup_map b.1 hz hx e
        exact hzk (this ▸ hk)
    · have hry := hs.rq y (List.mem_append_right _ e)
      exact ⟨hry.1.mod m (hWk y e).1, hry.2⟩
  · rcases List.mem_append.1 hy with e | e
    · obtain ⟨z, hz, rfl⟩ := List.mem_map.1 e
      rw [Rb.set_tk]
      exact hs.tks z (List.mem_append_left _ hz)
    · exact hs.tks y (List.mem_append_right _ e)

set_option maxHeartbeats 1000000 in
theorem upgrade1_c {ba bc rb : Nat} {x : Rb} {ra : Rq} (hx : RbAt h x) (hl : Loose h rb) (ha : RqAt h ba ra) (ho : ra.ok) (hc : hcell h ⟨bc, 0, none⟩ = some (ptrV rb)) (hab : ba ≠ x.b) (H : K (.bool (!decide (x.b = rb) && agst ra x.r)) h) :
    CallsH Try.prog 33 #[ptrV x.b, ptrV bc, ptrV ba] h K ⟨⟩ := by
  refine n33_calls ?_
  unfold n33
  by_cases e : x.b = rb
  · rw [e] at H
    rw [e]
    unfold ptrV at *
    simp (disch := omega) [hc]
    refine Hp_neqPtr_eq (by kernel_rfl) ?_
    simp (disch := omega)
    simpa using H
  · unfold ptrV at *
    simp (disch := omega) [hc]
    refine Hp_neqPtr_ne (by kernel_rfl) e hx.1.loose hl ?_
    simp (disch := omega)
    refine against_c ha hx.1 ho hx.2 ?_
    simp (disch := omega)
    simpa [e, hab] using H

set_option maxHeartbeats 2000000 in
theorem Upgrade_c {p : Nat} {s : Lk} {n : Int} {x : Rb} (hs : Lks h p s) (h0 : 0 ≤ n) (h1 : n < 4096) (hf : findS s n = some (x, false))
    (H1 : (s.H.any fun y => !decide (y.b = x.b) && agst (x.r.set true) y.r) = true → ∀ h', Ext h h' → K (.int .i64 10) h')
    (H2 : (s.H.any fun y => !decide (y.b = x.b) && agst (x.r.set true) y.r) = false → ∀ h', Lks h' p (setAl s n true) → Mod (· = x.b) h h' → K (.int .i64 0) h') :
    CallsH Try.prog 16 #[ptrV p, .int .i64 n] h K ⟨⟩ := by
  obtain ⟨hxH, hxk⟩ := findS_held hf
  have hxa : x ∈ s.all := List.mem_append_left _ hxH
  refine n16_calls ?_
  unfold n16
  refine which_c hs.toLkAt h0 h1 hf fun g1 e1 => ?_
  have hs1 := hs.ext e1
  have hr1 := hs1.rq x hxa
  simp (disch := omega)
  have hxl := hr1.1.1.lt
  refine (⟨_, rfl⟩ : ∃ g, g = hset (g1.push (.cells #[.pointer none] 59)) ⟨g1.size, 0, none⟩ (.pointer (some ⟨x.b, 0, none⟩))).elim fun g2 eg => ?_
  have E2 : Ext g1 g2 := by rw [eg]; exact (by repeat' (first | (with_reducible exact Ext.refl _) | (with_reducible assumption) | (with_reducible refine push_ext ?_) | (with_reducible refine hset_ext ?_ ?_) | (with_reducible refine Ext.trans ?_ (by assumption)) | omega | (simp; done) | (simp; omega) | (refine Ext.size ?_) | (refine Nat.le_succ_of_le (Ext.size ?_))))
  have B2 : g2[g1.size]? = some (.cells #[ptrV x.b] 59) := by rw [eg]; exact obj_set (get_pushed rfl)
  have hs2 := hs1.ext E2
  have hr2 := hs2.rq x hxa
  have b2 := cellOf (i := 0) B2 rfl
  have x0 := hr2.1.1.c0
  have x1 := hr2.1.1.c1
  have x2 := hr2.1.1.c2
  have x3 := hr2.1.1.c3
  have x4 := hr2.1.1.c4
  unfold ptrV at b2 ⊢
  simp (disch := omega) [← eg, b2, x0, x1, x2, x3, x4]
  refine (fun key => key _ ?_ ?_ : (∀ g3, Ext g2 g3 → RqAt g3 g2.size (x.r.set true) → CallsH Try.prog 32 _ g3 _ ⟨⟩) → _) (fun g3 E3 R3 => ?_)
  · exact (by repeat' (first | (with_reducible exact Ext.refl _) | (with_reducible assumption) | (with_reducible refine push_ext ?_) | (with_reducible refine hset_ext ?_ ?_) | (with_reducible refine Ext.trans ?_ (by assumption)) | omega | (simp; done) | (simp; omega) | (refine Ext.size ?_) | (refine Nat.le_succ_of_le (Ext.size ?_))))
  · exact obj_set (obj_set (obj_set (obj_set (obj_set (obj_set (get_pushed rfl))))))
  have hs3 := hs2.ext E3
  have b3 := hcell_ext E3 b2
  have hok : (x.r.set true).ok := hr1.1.2
  have hz1 : g1.size < g2.size := get_some_lt B2
  have hB3 : Loose g3 x.b := (hs3.rq x hxa).1.1.loose
  refine holds_c (pr := fun y => !decide (y.b = x.b) && agst (x.r.set true) y.r) hs3.cells hs3.map (fun y hy h' K' e' H' => ?_) fun g4 e4 => ?_
  · have hy' := hs3.rq y (List.mem_append_left _ hy)
    have hyl := (hs2.rq y (List.mem_append_left _ hy)).1.1.lt
    refine InvokeH_func (by kernel_rfl) ?_
    exact upgrade1_c (hy'.1.ext e') (hB3.ext e') (R3.ext e') hok (hcell_ext e' b3) (by omega) (H' h' (.refl _))
  · have E4 := ((e1.trans E2).trans E3).trans e4
    cases hc : s.H.any fun y => !decide (y.b = x.b) && agst (x.r.set true) y.r with
    | true =>
      simp (disch := omega)
      exact H1 hc _ E4
    | false =>
      have hs4 := hs3.ext e4
      have b4 := hcell_ext e4 b3
      have fr := frzOf (i := 3) (hs4.rq x hxa).1.1
      have c3 := (hs4.rq x hxa).1.1.c3
      simp (disch := omega) [b4, fr, c3]
      exact H2 hc _ (hs4.setAl hxH hxk) ((Mod.of_ext E4).trans (Mod.set _ ⟨x.b, 3, none⟩ _) (fun _ _ e => e))

theorem Downgrade_c {p : Nat} {s : Lk} {n : Int} {x : Rb} (hs : Lks h p s) (h0 : 0 ≤ n) (h1 : n < 4096) (hf : findS s n = some (x, false))
    (H : ∀ L lv ov h', L.Perm s.W → L.Pairwise (fun x y => x.r.tk ≤ y.r.tk) → Lks h' p { s with H := (goF (setAl s n false).H L).1, W := (goF (setAl s n false).H L).2.1, w := lv } → OwnT 3 1 h' ov ((goF (setAl s n false).H L).2.2.map (.int .i64)) →
      Mod (fun b => b = x.b ∨ foot p s b) h h' → (∀ b, blkV lv = some b → h.size ≤ b) → (∀ b, blkV ov = some b → h.size ≤ b) → K (.tuple #[ov, .int .i64 0]) h') :
    CallsH Try.prog 18 #[ptrV p, .int .i64 n] h K ⟨⟩ := by
  obtain ⟨hxH, hxk⟩ := findS_held hf
  have hxa : x ∈ s.all := List.mem_append_left _ hxH
  refine n18_calls ?_
  unfold n18
  refine which_c hs.toLkAt h0 h1 hf fun g1 e1 => ?_
  have hs1 := hs.ext e1
  have fr := frzOf (i := 3) (hs1.rq x hxa).1.1
  have hs2 := hs1.setAl (v := false) hxH hxk
  have c3 := (hs1.rq x hxa).1.1.c3
  simp (disch := omega) [ptrV, fr, c3]
  have m2 : Mod (fun b => b = x.b ∨ foot p s b) h (hset g1 ⟨x.b, 3, none⟩ (.bool false)) := (Mod.of_ext e1).trans (Mod.set _ ⟨x.b, 3, none⟩ _) (fun _ _ e => .inl e)
  refine goOn_c hs2 fun L lv ov h' a1 a2 a3 a4 a5 a6 a7 => ?_
  exact H L lv ov h' a1 a2 a3 a4 (m2.trans a5 (fun _ _ e => .inr e)) (fun b hb => Nat.le_trans m2.size (a6 b hb)) (fun b hb => Nat.le_trans m2.size (a7 b hb))
end Go.Proofs.Ytlligpgjkmfhpaa
set_option linter.unusedSimpArgs false
set_option linter.unusedVariables false
namespace Go.Proofs.Ytlligpgjkmfhpaa
open Go.Vc
variable {K : Value → Heap → Prop} {h : Heap}

set_option maxRecDepth 20000 in
theorem bits0_c (H : K (.int .i64 0) h) : CallsH Try.prog 53 #[.int .u64 0] h K ⟨⟩ := by
  refine n53_calls ?_
  unfold n53
  simp (disch := omega)
  refine n67_calls ?_
  unfold n67
  simp (disch := omega)
  refine JoinN.mk ?_
  simp (disch := omega)
  refine JoinN.mk ?_
  simp (disch := omega)
  refine JoinN.mk ?_
  simp (disch := omega)
  refine (Hp_indexStr (l := _) (b := 0) (by kernel_rfl) (by omega) (by kernel_rfl)).2 ?_
  simp (disch := omega)
  exact H

theorem SortNil_c {f : Value} (H : K (.tuple #[]) h) : CallsH Try.prog 54 #[.slice none 0 0, f] h K ⟨⟩ := by
  refine n54_calls ?_
  unfold n54
  simp (disch := omega)
  refine bits0_c ?_
  refine n68_calls ?_
  unfold n68
  refine loopA5 (fun _ : Unit => .int .i64 0) (fun _ => .int .i64 0) (fun _ => .int .i64 0) (fun _ => .bool true) (fun _ => .bool true) (fun _ g => g = h) (fun _ => 0) () ⟨rfl, rfl, rfl, rfl, rfl⟩ rfl ?_
  rintro _ g rfl
  refine JoinN.mk ?_
  simp (disch := omega)
  refine n75_calls ?_
  unfold n75
  simp (disch := omega)
  refine loopA1 (fun _ : Unit => .int .i64 1) (fun _ g' => g' = g) (fun _ => 0) () rfl rfl ?_
  rintro _ g rfl
  simp (disch := omega)
  exact H

theorem locksNil_c {f : Value} (H : ∀ a h', Ext h h' → K (.func a #[] #[ptrV h.size]) h') : CallsH Try.prog 39 #[.slice none 0 0, f] h K ⟨⟩ := by
  refine n39_calls ?_
  unfold n39
  refine SortNil_c ?_
  simp (disch := omega)
  refine loopA2 (fun _ : Unit => .slice none 0 0) (fun _ => .int .i64 0) (fun _ g => g = h) (fun _ => 0) () ⟨rfl, rfl⟩ rfl ?_
  rintro _ g rfl
  simp (disch := omega)
  refine n55_calls ?_
  unfold n55
  simp (disch := omega)
  exact H _ _ (by repeat' (first | (with_reducible exact Ext.refl _) | (with_reducible assumption) | (with_reducible refine push_ext ?_) | (with_reducible refine hset_ext ?_ ?_) | (with_reducible refine Ext.trans ?_ (by assumption)) | omega | (simp; done) | (simp; omega) | (refine Ext.size ?_) | (refine Nat.le_succ_of_le (Ext.size ?_))))

theorem Held0_c {p : Nat} {s : Lk} (hs : Lks h p s) (h0 : s.H = []) (H : ∀ a c h', Ext h h' → K (.func a #[] #[c]) h') : CallsH Try.prog 23 #[ptrV p] h K ⟨⟩ := by
  refine n23_calls ?_
  unfold n23
  refine JoinN_in1 (fun w g => w = .slice none 0 0 ∧ Ext h g) (fun kk hkk => ?_) (fun w g hw => ?_)
  · refine none_c (m := undef) hs.cells ?_
    have c0 := cellOf (i := 0) hs.cells rfl
    unfold ptrV
    simp (disch := omega) [c0]
    have hm := hs.map
    rw [h0] at hm
    refine Hp_rangeM (by kernel_rfl) hm fun h1 e1 hit hs1 => ?_
    refine loopMap1 (fun _ : Unit => .slice none 0 0) (fun I _ g => Ext h g) () hit rfl e1 ?_
    rintro I _ g hI hn hlt e2 X hX
    refine Hp_next hI (fun i hi => absurd hi (Nat.not_lt_zero _)) (fun _ => ?_)
    simp (disch := omega)
    exact hkk _ _ ⟨rfl, e2⟩
  · obtain ⟨rfl, e⟩ := hw
    exact locksNil_c fun a h' e' => H _ _ h' (e.trans e')

theorem Waiting0_c {p : Nat} {s : Lk} (hs : Lks h p s) (h0 : s.w = .slice none 0 0) (H : ∀ a c h', Ext h h' → K (.func a #[] #[c]) h') : CallsH Try.prog 24 #[ptrV p] h K ⟨⟩ := by
  refine n24_calls ?_
  unfold n24
  refine JoinN_in1 (fun w g => w = .slice none 0 0 ∧ Ext h g) (fun kk hkk => ?_) (fun w g hw => ?_)
  · refine none_c (m := undef) hs.cells ?_
    have c1 := cellOf (i := 1) hs.cells rfl
    rw [h0] at c1
    unfold ptrV
    simp (disch := omega) [c1]
    refine n42_calls ?_
    unfold n42
    simp (disch := omega)
    exact hkk _ _ ⟨rfl, .refl _⟩
  · obtain ⟨rfl, e⟩ := hw
    exact locksNil_c fun a h' e' => H _ _ h' (e.trans e')
end Go.Proofs.Ytlligpgjkmfhpaa
