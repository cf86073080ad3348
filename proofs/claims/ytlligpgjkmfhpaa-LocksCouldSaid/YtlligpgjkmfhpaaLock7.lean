/- Locks: asking. -/
import Derived.Test.YtlligpgjkmfhpaaLock6
set_option linter.unusedSimpArgs false
set_option linter.unusedVariables false
namespace Go.Proofs.Ytlligpgjkmfhpaa
open Go.Vc
variable {K : Value → Heap → Prop} {h : Heap}

/-- All that holds of who may write where. -/
structure Lks (h : Heap) (p : Nat) (s : Lk) : Prop extends LkAt h p s where
  tks : ∀ x ∈ s.all, x.r.tk ≤ s.tk
  tkb : 0 ≤ s.tk ∧ s.tk < 100000
  ord : HOk s.W s.W.length
theorem Lks.ext {h' : Heap} {p : Nat} {s : Lk} (a : Lks h p s) (e : Ext h h') : Lks h' p s := ⟨a.toLkAt.ext e, a.tks, a.tkb, a.ord⟩
def foot (p : Nat) (s : Lk) (b : Nat) : Prop := b = p ∨ b = s.m ∨ blkV s.w = some b
theorem LkAt.line {p : Nat} {s : Lk} (a : LkAt h p s) : LnAt h p (.map (some s.m)) (.int .i64 s.tk) s.w s.W :=
  ⟨a.cells, a.row, fun x hx => (a.rq x (List.mem_append_right _ hx)).1.1, by have := a.few; simp [Lk.all] at this; omega⟩
/-- No request lies where the Locks lie. -/
theorem LkAt.apart {p : Nat} {s : Lk} (a : LkAt h p s) {x : Rb} {b : Nat} (hx : RqAt h x.b x.r) (hb : foot p s b) : x.b ≠ b := fun e => by
  subst e
  have hx' := hx
  unfold RqAt at hx'
  rcases hb with e | e | e
  · rw [e, a.cells] at hx'; cases hx'
  · obtain ⟨es, cl, h1, _⟩ := a.map
    rw [e, h1] at hx'; cases hx'
  · exact a.row.ne e hx lnT_ne2 rfl
theorem LkAt.footlt {p : Nat} {s : Lk} (a : LkAt h p s) {b : Nat} (hb : foot p s b) : b < h.size := by
  rcases hb with e | e | e
  · rw [e]; exact get_some_lt a.cells
  · rw [e]; exact a.map.lt
  · exact a.row.lt e
/-- What is changed elsewhere does not matter. -/
theorem Lks.mod {S : Nat → Prop} {h' : Heap} {p : Nat} {s : Lk} (a : Lks h p s) (m : Mod S h h') (hS : ∀ b, foot p s b → ¬ S b) (hr : ∀ x ∈ s.all, ¬ S x.b) : Lks h' p s :=
  ⟨⟨(m.block p (get_some_lt a.cells) (hS _ (.inl rfl))).trans a.cells, a.map.mod m (hS _ (.inr (.inl rfl))), a.row.mod m (fun b hb => hS _ (.inr (.inr hb))), fun x hx => ⟨(a.rq x hx).1.mod m (hr x hx), (a.rq x hx).2⟩, a.blks, a.keys, a.few⟩, a.tks, a.tkb, a.ord⟩

theorem New_c (H : ∀ p h', Ext h h' → Lks h' p ⟨h'.size - 2, [], [], .slice none 0 0, 0⟩ → h.size ≤ p → p = h'.size - 1 → h'.size = h.size + 2 → K (ptrV p) h') : CallsH Try.prog 8 #[] h K ⟨⟩ := by
  refine n8_calls ?_
  unfold n8
  rw [Hp_makeMap]
  simp (disch := omega)
  refine H (h.size + 1) _ (by repeat' (first | (with_reducible exact Ext.refl _) | (with_reducible assumption) | (with_reducible refine push_ext ?_) | (with_reducible refine hset_ext ?_ ?_) | (with_reducible refine Ext.trans ?_ (by assumption)) | omega | (simp; done) | (simp; omega) | (refine Ext.size ?_) | (refine Nat.le_succ_of_le (Ext.size ?_)))) ⟨⟨?_, ?_, .inl ⟨rfl, rfl⟩, fun x hx => (by cases hx), by simp [Lk.all], by simp [Lk.all], by simp [Lk.all]⟩, fun x hx => (by cases hx), by simp, fun i _ hi => absurd hi (Nat.not_lt_zero _)⟩ (by omega) (by simp) (by simp)
  · have e2 : ((h.push (.map #[] 0)).push (.cells #[.map (some h.size), .slice none 0 0, .int .i64 0] 57)).size - 2 = h.size := by simp
    rw [e2]
    exact get_pushed (by rw [Array.size_push])
  · have : MapK (κ := Int) (.int .i64) (h.push (.map #[] 0)) h.size [] := MapK.new rfl
    simp
    exact this.ext (push_ext (.refl _))

def rqOf (id a l : Int) (al : Bool) (tk : Int) : Rq := ⟨id, a, l, al, tk⟩
theorem find_none {s : Lk} {n : Int} (hf : findS s n = none) : ∀ x ∈ s.all, x.key ≠ n := by
  unfold findS at hf
  split at hf
  · cases hf
  · rename_i h1
    split at hf
    · cases hf
    · rename_i h2
      intro x hx
      rcases List.mem_append.1 hx with e | e
      · have := List.find?_eq_none.1 h1 x e; simpa using this
      · have := List.find?_eq_none.1 h2 x e; simpa using this
theorem upd_mapL {n : Int} {v : Value} {H : List Rb} (hn : ∀ x ∈ H, x.key ≠ n) : upd n v (mapL H) = mapL H ++ [(n, v)] := by
  refine push_upd (j := 0) ?_
  have := findK_look n (mapL H) 0
  rw [look_mapL] at this
  have h2 : H.find? (fun x => decide (x.key = n)) = none := List.find?_eq_none.2 fun x hx => by simpa using hn x hx
  rw [h2] at this
  cases hk : findK n (mapL H) 0 with
  | none => rfl
  | some y => rw [hk] at this; cases this

theorem perm_H {s : Lk} {x : Rb} {t : Int} : (({ s with H := s.H ++ [x], tk := t } : Lk).all).Perm (x :: s.all) := by
  unfold Lk.all
  simp only [List.append_assoc, List.singleton_append]
  exact List.perm_middle
theorem perm_W {s : Lk} {x : Rb} {w : Value} {t : Int} : (({ s with W := s.W ++ [x], w := w, tk := t } : Lk).all).Perm (x :: s.all) := by
  unfold Lk.all
  simp only [← List.append_assoc]
  exact List.perm_append_singleton _ _
theorem grown {s : Lk} {L : List Rb} {x : Rb} {t : Int} (hp : L.Perm (x :: s.all)) (old : ∀ y ∈ s.all, RbAt h y ∧ y.key = y.r.id) (new : RbAt h x ∧ x.key = x.r.id) (hb : ∀ y ∈ s.all, x.b ≠ y.b) (hk : ∀ y ∈ s.all, y.key ≠ x.key) (ht : ∀ y ∈ s.all, y.r.tk ≤ t) (hx : x.r.tk ≤ t)
    (b : (s.all.map (·.b)).Nodup) (k : (s.all.map (·.key)).Nodup) (f : s.all.length + 1 < 100000) : (∀ y ∈ L, RbAt h y ∧ y.key = y.r.id) ∧ (L.map (·.b)).Nodup ∧ (L.map (·.key)).Nodup ∧ L.length < 100000 ∧ ∀ y ∈ L, y.r.tk ≤ t := by
  refine ⟨fun y hy => ?_, ?_, ?_, ?_, fun y hy => ?_⟩
  · rcases List.mem_cons.1 (hp.mem_iff.1 hy) with e | e
    · subst e; exact new
    · exact old y e
  · rw [(hp.map _).nodup_iff, List.map_cons, List.nodup_cons]
    refine ⟨fun hm => ?_, b⟩
    obtain ⟨y, hy, he⟩ := List.mem_map.1 hm
    exact hb y hy he.symm
  · rw [(hp.map _).nodup_iff, List.map_cons, List.nodup_cons]
    refine ⟨fun hm => ?_, k⟩
    obtain ⟨y, hy, he⟩ := List.mem_map.1 hm
    exact hk y hy he
  · have := hp.length_eq; simp at this; omega
  · rcases List.mem_cons.1 (hp.mem_iff.1 hy) with e | e
    · subst e; exact hx
    · exact ht y e

/-- A new request. -/
theorem Ask_c {p : Nat} {s : Lk} {id a l : Int} {al : Bool} (hs : Lks h p s) (hm : MayP id a l) (hf : findS s id = none) (hfew : s.all.length + 1 < 100000) (htk : s.tk + 1 < 100000)
    (H : ∀ b w' h', h.size ≤ b → Lks h' p (if couldS s ⟨id, a, l, al, s.tk + 1⟩ then { s with H := s.H ++ [⟨id, b, ⟨id, a, l, al, s.tk + 1⟩⟩], tk := s.tk + 1 } else { s with W := s.W ++ [⟨id, b, ⟨id, a, l, al, s.tk + 1⟩⟩], w := w', tk := s.tk + 1 }) →
      Mod (foot p s) h h' → (∀ b, blkV w' = some b → blkV s.w = some b ∨ h.size ≤ b) → K (.tuple #[.bool (couldS s ⟨id, a, l, al, s.tk + 1⟩), .int .i64 0]) h') :
    CallsH Try.prog 10 #[ptrV p, lockV id a l al] h K ⟨⟩ := by
  refine n10_calls ?_
  unfold n10
  have e0 : Ext h (h.push (.cells #[.int .i64 id, .int .i64 a, .int .i64 l, .bool al] 29)) := (by repeat' (first | (with_reducible exact Ext.refl _) | (with_reducible assumption) | (with_reducible refine push_ext ?_) | (with_reducible refine hset_ext ?_ ?_) | (with_reducible refine Ext.trans ?_ (by assumption)) | omega | (simp; done) | (simp; omega) | (refine Ext.size ?_) | (refine Nat.le_succ_of_le (Ext.size ?_))))
  rw [show lockV id a l al = .agg #[.int .i64 id, .int .i64 a, .int .i64 l, .bool al] from rfl]
  simp (disch := omega)
  have hs0 := hs.ext e0
  refine none_c (m := undef) hs0.cells ?_
  simp (disch := omega)
  refine may_c (id := id) (a := a) (l := l) (al := al) fun h1 e1 => ?_
  rw [decide_eq_true hm]
  have c0 : hcell (h.push (.cells #[.int .i64 id, .int .i64 a, .int .i64 l, .bool al] 29)) ⟨h.size, 0, none⟩ = some (.int .i64 id) := by simp
  have c1 : hcell (h.push (.cells #[.int .i64 id, .int .i64 a, .int .i64 l, .bool al] 29)) ⟨h.size, 1, none⟩ = some (.int .i64 a) := by simp
  have c2 : hcell (h.push (.cells #[.int .i64 id, .int .i64 a, .int .i64 l, .bool al] 29)) ⟨h.size, 2, none⟩ = some (.int .i64 l) := by simp
  have c3 : hcell (h.push (.cells #[.int .i64 id, .int .i64 a, .int .i64 l, .bool al] 29)) ⟨h.size, 3, none⟩ = some (.bool al) := by simp
  simp (disch := omega) [hcell_ext e1 c0]
  refine find_c (hs0.ext e1).toLkAt fun h2 e2 => ?_
  rw [hf]
  have E2 := e1.trans e2
  have s2 := (hs0.ext e1).ext e2
  have d2 := cellOf (i := 2) s2.cells rfl
  have f2 := frzOf (i := 2) s2.cells
  unfold findV
  have ht0 := hs.tkb
  have hpl := get_some_lt hs.cells
  have z0 : h.size < (h.push (.cells #[.int .i64 id, .int .i64 a, .int .i64 l, .bool al] 29)).size := by simp
  have B2 : h2[h.size]? = some (.cells #[.int .i64 id, .int .i64 a, .int .i64 l, .bool al] 29) := (E2.block _ z0).trans (get_pushed rfl)
  refine (⟨_, rfl⟩ : ∃ g, g = hset h2 ⟨p, 2, none⟩ (.int .i64 (s.tk + 1))).elim fun g eg => ?_
  have Mg : Mod (· = p) h2 g := by rw [eg]; exact Mod.set h2 ⟨p, 2, none⟩ _
  have gB : g[h.size]? = some (.cells #[.int .i64 id, .int .i64 a, .int .i64 l, .bool al] 29) := (Mg.block _ (get_some_lt B2) (by omega)).trans B2
  have gp : g[p]? = some (.cells #[.map (some s.m), s.w, .int .i64 (s.tk + 1)] 57) := by rw [eg]; exact obj_set s2.cells
  have b0 := cellOf (i := 0) B2 rfl
  have g0 := cellOf (i := 0) gB rfl
  have g1 := cellOf (i := 1) gB rfl
  have g2 := cellOf (i := 2) gB rfl
  have g3 := cellOf (i := 3) gB rfl
  have q2 := cellOf (i := 2) gp rfl
  unfold ptrV
  simp (disch := omega) [d2, f2, ← eg, b0, g0, g1, g2, g3, q2]
  have Rne : ∀ x ∈ s.all, x.b ≠ p := fun x hx => s2.toLkAt.apart (s2.rq x hx).1.1 (.inl rfl)
  have hgT : Lks g p { s with tk := s.tk + 1 } := by
    refine ⟨⟨gp, s2.map.mod Mg (fun e => ?_), s2.row.mod Mg (fun b hb e => s2.row.ne hb s2.cells lnT_ne e), fun x hx => ⟨(s2.rq x hx).1.mod Mg (Rne x hx), (s2.rq x hx).2⟩, s2.blks, s2.keys, s2.few⟩, fun x hx => ?_, ?_, s2.ord⟩
    · obtain ⟨es, cl, h3, _⟩ := s2.map
      rw [e, s2.cells] at h3; cases h3
    · have := s2.tks x hx
      show x.r.tk ≤ s.tk + 1
      omega
    · show 0 ≤ s.tk + 1 ∧ s.tk + 1 < 100000
      omega
  have Eg : Ext g (g.push (.cells #[.int .i64 id, .int .i64 a, .int .i64 l, .bool al, .int .i64 (s.tk + 1)] 63)) := (by repeat' (first | (with_reducible exact Ext.refl _) | (with_reducible assumption) | (with_reducible refine push_ext ?_) | (with_reducible refine hset_ext ?_ ?_) | (with_reducible refine Ext.trans ?_ (by assumption)) | omega | (simp; done) | (simp; omega) | (refine Ext.size ?_) | (refine Nat.le_succ_of_le (Ext.size ?_))))
  have hT := hgT.ext Eg
  have zg : h.size ≤ g.size := by have := Mg.size; have := E2.size; omega
  have hr : RqAt (g.push (.cells #[.int .i64 id, .int .i64 a, .int .i64 l, .bool al, .int .i64 (s.tk + 1)] 63)) g.size ⟨id, a, l, al, s.tk + 1⟩ := get_pushed rfl
  have hnb : ∀ x ∈ s.all, g.size ≠ x.b := fun x hx => by have := (hgT.rq x hx).1.1.lt; omega
  have hok : (⟨id, a, l, al, s.tk + 1⟩ : Rq).ok := ⟨hm.2.2.1, hm.2.2.2.1, by have := hm.2.2.2.2.2; show a + l ≤ _; omega⟩
  have hkn := find_none hf
  refine could_c hT.toLkAt hr hok hnb fun h4 e4 => ?_
  have M4 : Mod (foot p s) h h4 := by
    refine Mod.extIn (Mod.extIn ((Mod.of_ext (e0.trans E2)).trans Mg (fun b _ e => .inl e)) Eg) e4
  have r4 := hr.ext e4
  have T4 := hT.ext e4
  have e5 : couldS { s with tk := s.tk + 1 } ⟨id, a, l, al, s.tk + 1⟩ = couldS s ⟨id, a, l, al, s.tk + 1⟩ := rfl
  rw [e5]
  have key := H g.size
  cases hc : couldS s ⟨id, a, l, al, s.tk + 1⟩ with
  | true =>
    rw [hc] at key
    simp only [if_true] at key
    have p0 := cellOf (i := 0) T4.cells rfl
    have i0 := hcell_ext (Eg.trans e4) g0
    simp (disch := omega) [p0, i0]
    refine Hp_mapUpdate lockKey T4.map fun h5 hm5 m5 => ?_
    have hup : upd id (ptrV g.size) (mapL s.H) = mapL (s.H ++ [⟨id, g.size, ⟨id, a, l, al, s.tk + 1⟩⟩]) := by
      rw [upd_mapL (fun x hx => hkn x (List.mem_append_left _ hx))]
      simp [mapL]
    have hm6 := hm5
    rw [show (Value.pointer (some ⟨g.size, 0, none⟩)) = ptrV g.size from rfl, hup] at hm6
    have nm : ∀ {b : Nat} {arr : Array Value} {t : Go.TypeId}, h4[b]? = some (.cells arr t) → b ≠ s.m := fun {b arr t} hb e => by
      obtain ⟨es, cl, h3, _⟩ := T4.map
      rw [e] at hb
      rw [hb] at h3; cases h3
    obtain ⟨q1, q3, q4, q5, q6⟩ := grown (h := h5) (s := s) (t := s.tk + 1) (perm_H (x := ⟨id, g.size, ⟨id, a, l, al, s.tk + 1⟩⟩) (t := s.tk + 1)) (fun y hy => ⟨(T4.rq y hy).1.mod m5 (nm (T4.rq y hy).1.1), (T4.rq y hy).2⟩) ⟨⟨r4.mod m5 (nm r4), hok⟩, rfl⟩ hnb hkn (fun y hy => by have := hs.tks y hy; omega) (Int.le_refl _) hs.blks hs.keys hfew
    exact key s.w h5 zg ⟨⟨(m5.block p (get_some_lt T4.cells) (nm T4.cells)).trans T4.cells, hm6, T4.row.mod m5 (fun b hb e => by obtain ⟨arr, ha⟩ := T4.row.tag hb; exact nm ha e), q1, q3, q4, q5⟩, q6, hT.tkb, hs.ord⟩ (M4.trans m5 (fun _ _ e => .inr (.inl e))) (fun b hb => .inl hb)
  | false =>
    rw [hc] at key
    simp only [Bool.false_eq_true, if_false] at key
    simp (disch := omega) [Hp_mkIface (P := Try.prog) (t := 66) (by kernel_rfl), Hp_mkIface (P := Try.prog) (t := 59) (by kernel_rfl)]
    have hWl : s.W.length + 1 < 100000 := by simp [Lk.all] at hfew; omega
    refine heapPush_c (x := ⟨id, g.size, ⟨id, a, l, al, s.tk + 1⟩⟩) T4.toLkAt.line r4 hWl (fun y hy => by have := hs.tks y (List.mem_append_right _ hy); show y.r.tk ≤ s.tk + 1; omega) fun w' h5 ln m5 hb5 => ?_
    have np : ∀ b, foot p s b → b ≠ s.m → b = p ∨ blkV s.w = some b := fun b hb hne => hb.elim .inl (fun e => e.elim (fun e => absurd e hne) .inr)
    have hft : ∀ b, (b = p ∨ blkV s.w = some b) → foot p s b := fun b e => e.elim .inl (fun e => .inr (.inr e))
    have Rn : ∀ y ∈ s.all, ¬ (y.b = p ∨ blkV s.w = some y.b) := fun y hy e => T4.toLkAt.apart (T4.rq y hy).1.1 (hft _ e) rfl
    have rn : ¬ (g.size = p ∨ blkV s.w = some g.size) := fun e => T4.toLkAt.apart (x := ⟨id, g.size, ⟨id, a, l, al, s.tk + 1⟩⟩) r4 (hft _ e) rfl
    obtain ⟨q1, q3, q4, q5, q6⟩ := grown (h := h5) (s := s) (t := s.tk + 1) (perm_W (x := ⟨id, g.size, ⟨id, a, l, al, s.tk + 1⟩⟩) (w := w') (t := s.tk + 1)) (fun y hy => ⟨(T4.rq y hy).1.mod m5 (Rn y hy), (T4.rq y hy).2⟩) ⟨⟨r4.mod m5 rn, hok⟩, rfl⟩ hnb hkn (fun y hy => by have := hs.tks y hy; omega) (Int.le_refl _) hs.blks hs.keys hfew
    have hz4 : h.size ≤ h4.size := by have := Eg.size; have := e4.size; omega
    refine key w' h5 zg ⟨⟨ln.cells, T4.map.mod m5 ?_, ln.row, q1, q3, q4, q5⟩, q6, hT.tkb, ?_⟩ (M4.trans m5 (fun _ _ e => hft _ e)) (fun b hb => (hb5 b hb).imp (fun e => e) (fun e => by omega))
    · rintro (e | e)
      · obtain ⟨es, cl, h3, _⟩ := T4.map
        rw [e, T4.cells] at h3; cases h3
      · obtain ⟨es, cl, h3, _⟩ := T4.map
        exact T4.row.neM e h3 rfl
    · intro i i0 hi
      simp at hi
      unfold tkO
      rcases Nat.lt_or_ge i s.W.length with hl | hl
      · rw [List.getElem?_append_left hl, List.getElem?_append_left (by omega)]
        exact hs.ord i i0 hl
      · have : i = s.W.length := by omega
        subst this
        rw [List.getElem?_append_right (Nat.le_refl _), List.getElem?_append_left (by omega), List.getElem?_eq_getElem (by omega)]
        have := hs.tks _ (List.mem_append_right s.H (List.getElem_mem (show (s.W.length - 1) / 2 < s.W.length by omega)))
        simp; omega
end Go.Proofs.Ytlligpgjkmfhpaa
