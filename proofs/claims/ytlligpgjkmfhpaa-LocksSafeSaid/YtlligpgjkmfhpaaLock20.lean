/- Locks: one that holds is done. -/
import Derived.Test.YtlligpgjkmfhpaaLock18
import Derived.Test.YtlligpgjkmfhpaaLock19
set_option linter.unusedSimpArgs false
set_option linter.unusedVariables false
namespace Go.Proofs.Ytlligpgjkmfhpaa
open Go.Vc
variable {K : Value → Heap → Prop} {h : Heap}

theorem LkAt.notT {p : Nat} {s : Lk} {b : Nat} {arr : Array Value} {e : Nat} (a : LkAt h p s) (hb : h[b]? = some (.cells arr e)) (h1 : e ≠ 57) (h2 : e ≠ lnT) : ¬ foot p s b := by
  rintro (x | x | x)
  · rw [x, a.cells] at hb; cases hb; exact h1 rfl
  · obtain ⟨es, cl, h3, _⟩ := a.map
    rw [x, h3] at hb; cases hb
  · exact a.row.ne x hb (Ne.symm h2) rfl
theorem Lv.modT {o h' : Heap} {p b : Nat} {s : Lk} {arr : Array Value} {e : Nat} (a : Lv o h p s) (hb : h[b]? = some (.cells arr e)) (h1 : e ≠ 57) (h2 : e ≠ lnT) (h3 : e ≠ 63) (h4 : o.size ≤ b) (m : Mod (· = b) h h') : Lv o h' p s :=
  ⟨a.lks.mod m (fun c hc e' => by have : c = b := e'; subst this; exact a.lks.toLkAt.notT hb h1 h2 hc) (fun x hx e' => by
    have := (a.lks.rq x hx).1.1
    unfold RqAt at this
    rw [show x.b = b from e', hb] at this; cases this; exact h3 rfl), m.ext_from a.ext (fun c hc e' => by have : c = b := e'; omega), a.foot, a.req⟩

structure FinI (o g : Heap) (p ob : Nat) (s : Lk) (some : List Lx) (od : List Int) (gl : List Bool) (ov gv : Value) : Prop where
  lv : Lv o g p s
  inv : InvL some s od gl
  box : g[ob]? = Option.some (.cells #[ov] 23)
  ord : OwnT 3 1 g ov (od.map (.int .i64))
  gone : OwnT 4 1 g gv (gl.map .bool)
  ovb : ∀ b, blkV ov = Option.some b → o.size ≤ b
  gvb : ∀ b, blkV gv = Option.some b → o.size ≤ b
  obb : o.size ≤ ob
  glen : some.length ≤ gl.length
  few : some.length ≤ 1000
theorem FinI.ext {o g g' : Heap} {p ob : Nat} {s : Lk} {some : List Lx} {od : List Int} {gl : List Bool} {ov gv : Value} (I : FinI o g p ob s some od gl ov gv) (e : Ext g g') : FinI o g' p ob s some od gl ov gv :=
  ⟨I.lv.of_ext e, I.inv, (e.block _ (get_some_lt I.box)).trans I.box, I.ord.ext e, I.gone.ext e, I.ovb, I.gvb, I.obb, I.glen, I.few⟩
theorem InvL.odlen {some : List Lx} {s : Lk} {od : List Int} {gl : List Bool} (I : InvL some s od gl) : od.length ≤ some.length := by
  have hnd : (od.map Int.toNat).Nodup := by
    refine List.pairwise_map.2 (List.Pairwise.imp_of_mem (fun {a b} ha hb hne e => hne ?_) I.nd)
    have := I.rng a ha
    have := I.rng b hb
    omega
  have hsub : od.map Int.toNat ⊆ List.range some.length := fun k hk => by
    obtain ⟨x, hx, rfl⟩ := List.mem_map.1 hk
    have := I.rng x hx
    simp; omega
  have := List.Nodup.length_le_of_subset hnd hsub
  simpa using this
theorem tmod_in {m : Int} {n : Nat} (hn : 0 < n) : 0 ≤ m.tmod n % n ∧ m.tmod n % n < n := ⟨Int.emod_nonneg _ (by omega), Int.emod_lt_of_pos _ (by omega)⟩
theorem tmod_id {i n : Nat} (hi : i < n) : ((i : Int) + 0).tmod n % n = i := by
  have h1 : ((i : Int) + 0).tmod n = i := by rw [Int.add_zero]; exact Int.tmod_eq_of_lt (by omega) (by omega)
  rw [h1]
  exact Int.emod_eq_of_lt (by omega) (by omega)

theorem FinI.nofoot {o g : Heap} {p ob : Nat} {s : Lk} {some : List Lx} {od : List Int} {gl : List Bool} {ov gv : Value} (I : FinI o g p ob s some od gl ov gv) :
    ¬ foot p s ob ∧ (∀ b, blkV ov = Option.some b → ¬ foot p s b ∧ b ≠ ob) ∧ (∀ b, blkV gv = Option.some b → ¬ foot p s b ∧ b ≠ ob ∧ ¬ blkV ov = Option.some b) := by
  refine ⟨I.lv.lks.toLkAt.notT I.box (by decide) (by decide), fun b hb => ?_, fun b hb => ?_⟩
  · obtain ⟨arr, ha⟩ := I.ord.tag hb
    exact ⟨I.lv.lks.toLkAt.notT ha (by decide) (by decide), I.ord.ne hb I.box (by decide)⟩
  · obtain ⟨arr, ha⟩ := I.gone.tag hb
    exact ⟨I.lv.lks.toLkAt.notT ha (by decide) (by decide), I.gone.ne hb I.box (by decide), fun e => I.ord.ne e ha (by decide) rfl⟩

theorem ownT_src {e : Nat} {v : Value} {vs : List Value} (o : OwnT e 1 h v vs) : Src 1 h v vs.length vs := by
  have o' := o
  rcases o with ⟨rfl, rfl⟩ | ⟨b, n, c, rest, rfl, h1, h2, h3, h4⟩
  · exact .inl ⟨rfl, rfl, rfl⟩
  · have : n = vs.length := by omega
    subst this
    exact .inr (.inl ⟨⟨b, 0, none⟩, c, rfl, by simp, fun j hj => (o'.elt hj).1⟩)
theorem find_key {s : Lk} {n : Int} (hn : n ∈ s.H.map (·.key)) : ∃ x, findS s n = some (x, false) := by
  unfold findS
  cases e : s.H.find? (fun x => decide (x.key = n)) with
  | some x => exact ⟨x, rfl⟩
  | none =>
    obtain ⟨x, hx, he⟩ := List.mem_map.1 hn
    have := List.find?_eq_none.1 e x hx
    simp [he] at this

set_option maxHeartbeats 1000000 in
theorem finish_c {o : Heap} {p ob : Nat} {s : Lk} {some : List Lx} {od : List Int} {gl : List Bool} {ov gv : Value} {k : Int} (I : FinI o h p ob s some od gl ov gv)
    (H : ∀ s' od' gl' ov' h', FinI o h' p ob s' some od' gl' ov' gv → gl'.length = gl.length → (k = 0 → s.all ≠ [] → s'.all.length < s.all.length) → s'.all.length ≤ s.all.length →
      Mod (fun b => foot p s b ∨ b = ob ∨ blkV gv = Option.some b) h h' → K (.bool true) h') :
    CallsH Try.prog 12 #[ptrV p, ov, gv, ptrV ob, .int .i64 k] h K ⟨⟩ := by
  refine n12_calls ?_
  unfold n12
  obtain ⟨oa, on, oc, hov, hon, hoc, hone⟩ := I.ord.form (by omega)
  have hon' : od.length = on := by simpa using hon
  subst hon'
  obtain ⟨ga, gn, gc, hgv, hgn, hgc, hgne⟩ := I.gone.form (by omega)
  have hgn' : gl.length = gn := by simpa using hgn
  subst hgn'
  have hodl := I.inv.odlen
  have hfew := I.few
  have hgl := I.glen
  rw [hov]
  refine loopX1 (fun i : Nat => .int .i64 i) (fun i g => Ext h g ∧ i ≤ od.length ∧ (k = 0 → ∀ j (hj : j < od.length), j < i → goneL gl od[j] = true)) (fun i => od.length - i) 0 rfl ⟨.refl _, by omega, fun _ j _ hj => absurd hj (Nat.not_lt_zero _)⟩ ?_
  rintro i g ⟨e1, hi, hgo⟩ X hX
  have I1 := I.ext e1
  by_cases hil : i < od.length
  · have hpos : 0 < od.length := by omega
    obtain ⟨ob', hob'⟩ := hone (by intro e; rw [List.map_eq_nil_iff] at e; rw [e] at hpos; simp at hpos)
    subst hob'
    obtain ⟨gb, hgb⟩ := hgne (by intro e; have := congrArg List.length e; rw [List.length_map, List.length_nil] at this; omega)
    subst hgb
    have b1 := Int.lt_tmod_of_pos (IntKind.i64.wrap (↑i + k)) (show (0 : Int) < od.length by omega)
    have b2 := Int.tmod_lt_of_pos (IntKind.i64.wrap (↑i + k)) (show (0 : Int) < od.length by omega)
    obtain ⟨b3, b4⟩ := tmod_in (m := IntKind.i64.wrap (↑i + k)) hpos
    have b5 : k = 0 → (IntKind.i64.wrap (↑i + k)).tmod od.length % od.length = i := fun e => by
      subst e
      rw [wrap_i64 (by omega) (by omega)]
      exact tmod_id hil
    simp (disch := omega)
    generalize (IntKind.i64.wrap (↑i + k)).tmod ↑od.length % ↑od.length = ix at b3 b4 b5
    obtain ⟨t, rfl⟩ := Int.eq_ofNat_of_zero_le b3
    have htl : t < od.length := by omega
    have hod : hcell g (elt ⟨ob', 0, none⟩ t) = Option.some (.int .i64 od[t]) := by
      have := I1.ord
      rw [hov] at this
      have := (this.elt (i := t) (by simpa using htl)).1
      simpa using this
    have hrg := I.inv.rng _ (List.getElem_mem htl)
    have hmem : od[t] ∈ od := List.getElem_mem htl
    generalize hid : od[t] = id at hod hrg hmem
    have hgo1 := I1.gone
    rw [hgv] at hgo1
    have hidl : id.toNat < gl.length := by omega
    have hgc := hgo1.elt (i := id.toNat) (by simpa using hidl)
    have hge : (gl.map Value.bool)[id.toNat]'(by simpa using hidl) = .bool (goneL gl id) := by unfold goneL; simp [List.getElem?_eq_getElem hidl]
    rw [hge] at hgc
    cases hgx : goneL gl id with
    | true =>
      rw [hgx] at hgc
      rw [hgv]
      simp (disch := omega) [hod, hgc]
      refine hX (i + 1) _ _ (by simp) ⟨e1, by omega, fun hk j hj hji => ?_⟩ (by omega)
      by_cases e : j = i
      · have := b5 hk
        have : t = i := by omega
        subst e
        subst this
        rw [hid]; exact hgx
      · exact hgo hk j hj (by omega)
    | false =>
      rw [hgx] at hgc
      rw [hgv]
      simp (disch := omega) [hod, hgc]
      obtain ⟨nf1, nf2, nf3⟩ := I1.nofoot
      have hgbb : blkV gv = Option.some gb := by rw [hgv]; rfl
      obtain ⟨garr, hga⟩ := I1.gone.tag hgbb
      obtain ⟨nf4, nf5, nf6⟩ := nf3 gb hgbb
      have hn : id ∈ s.H.map (·.key) := (I.inv.live id).1 ⟨hmem, hgx⟩
      obtain ⟨x, hfx⟩ := find_key hn
      have e2 : elt ⟨gb, 0, none⟩ id.toNat = ⟨gb, id.toNat, none⟩ := by rw [elt_mk, Nat.zero_add]
      have hgo2 := hgo1.setE (i := id.toNat) (u := .bool true) (by simpa using hidl)
      rw [← List.map_set, e2] at hgo2
      rw [e2]
      have m2 : Mod (· = gb) g (hset g ⟨gb, id.toNat, none⟩ (.bool true)) := Mod.set g ⟨gb, id.toNat, none⟩ _
      generalize hset g ⟨gb, id.toNat, none⟩ (.bool true) = g2 at m2 hgo2
      have lv2 : Lv o g2 p s := I1.lv.modT hga (by decide) (by decide) (by decide) (I.gvb gb hgbb) m2
      have box2 : g2[ob]? = Option.some (.cells #[ov] 23) := (m2.block _ (get_some_lt I1.box) (Ne.symm nf5)).trans I1.box
      have ord2 : OwnT 3 1 g2 ov (od.map (.int .i64)) := I1.ord.mod m2 (fun b hb e => nf6 (by rw [hb]; exact congrArg Option.some e))
      refine Done_v (n := id) lv2 hrg.1 (by omega) hfx fun L lv ov2 g3 a1 a2 lv3 o3 m3 ob3 => ?_
      have box3 : g3[ob]? = Option.some (.cells #[ov] 23) := (m3.block _ (get_some_lt box2) nf1).trans box2
      have ord3 : OwnT 3 1 g3 ov (od.map (.int .i64)) := ord2.mod m3 (fun b hb e => (nf2 b hb).1 e)
      have gone3 : OwnT 4 1 g3 (.slice (Option.some ⟨gb, 0, none⟩) gl.length gc) ((gl.set id.toNat true).map .bool) := hgo2.mod m3 (fun b hb e => by cases hb; exact nf4 e)
      have cb := cellOf (i := 0) box3 rfl
      have fb := frzOf (i := 0) box3
      obtain ⟨D1, D2⟩ := I.inv.done (L := L) (lv := lv) hn (by omega) a1 a2
      have hobl := get_some_lt box3
      have hE : Ext g3 (g3.push (.cells #[] 3)) := (by repeat' (first | (with_reducible exact Ext.refl _) | (with_reducible assumption) | (with_reducible refine push_ext ?_) | (with_reducible refine hset_ext ?_ ?_) | (with_reducible refine Ext.trans ?_ (by assumption)) | omega | (simp; done) | (simp; omega) | (refine Ext.size ?_) | (refine Nat.le_succ_of_le (Ext.size ?_))))
      have o4 : OwnT 3 1 (g3.push (.cells #[] 3)) (.slice (Option.some ⟨g3.size, 0, none⟩) 0 0) [] := .inr ⟨g3.size, 0, 0, [], rfl, rfl, Nat.le_refl _, get_pushed rfl, rfl⟩
      have lv4 := lv3.of_ext hE
      have box4 := (hE.block _ hobl).trans box3
      have ord4 := ord3.ext hE
      have gone4 := gone3.ext hE
      have o34 := o3.ext hE
      have zE : (g3.push (.cells #[] 3)).size = g3.size + 1 := by simp
      unfold ptrV
      simp (disch := omega) [cb, Nat.ne_of_lt hobl]
      generalize g3.push (.cells #[] 3) = g4 at hE o4 lv4 box4 ord4 gone4 o34 zE ⊢
      refine Hp_appendT (e := 3) (s := 1) (by_ := 8) (n := 0) (k := od.length) (news := od.map (.int .i64)) (by kernel_rfl) (by kernel_rfl) o4 rfl (by omega) (by simpa using ownT_src ord4) (by simp [one]) (by omega) (by omega) fun v5 g5 o5 m5 f5 _ => ?_
      have s4 : ∀ b, blkV (.slice (Option.some ⟨g3.size, 0, none⟩) 0 0) = Option.some b → b = g3.size := fun b hb => by cases hb; rfl
      have m5' : Mod (· = g3.size) g4 g5 := m5.mono (fun b _ e => s4 b e)
      have z3 : g3.size ≤ g5.size := by have := m5.size; omega
      have fb5 : ∀ b, blkV v5 = Option.some b → g3.size ≤ b := fun b hb => (f5 b hb).elim (fun e => by have := s4 b e; omega) (fun e => by omega)
      have mF : Mod (fun _ => False) g3 g5 := (Mod.of_ext hE).trans m5' (fun b hb e => by have : b = g3.size := e; omega)
      have x5 : Ext g3 g5 := mF.ext_from (.refl _) (fun b _ e => e.elim)
      have lenO : (goF (goneS s id).H L).2.2.length + od.length ≤ 1000 := by
        have := D1.odlen
        simp at this
        omega
      refine Hp_appendT (e := 3) (s := 1) (by_ := 8) (n := od.length) (k := (goF (goneS s id).H L).2.2.length) (news := (goF (goneS s id).H L).2.2.map (.int .i64)) (by kernel_rfl) (by kernel_rfl) o5 (by simp) (by omega) (by simpa using ownT_src (o3.ext x5)) (by simp [one]) (by omega) (by omega) fun v6 g6 o6 m6 f6 _ => ?_
      have m6' : Mod (fun b => g3.size ≤ b) g5 g6 := m6.mono (fun b _ e => fb5 b e)
      have x6 : Ext g3 g6 := m6'.ext_from x5 (fun b hb e => by omega)
      have fb6 : ∀ b, blkV v6 = Option.some b → g3.size ≤ b := fun b hb => (f6 b hb).elim (fun e => fb5 b e) (fun e => by omega)
      have box6 := (x6.block _ hobl).trans box3
      have c6 := cellOf (i := 0) box6 rfl
      have k6 := frzOf (i := 0) box6
      obtain ⟨q1, q2, q3, q4, -⟩ := o6.form (by omega)
      rw [q4]
      simp (disch := omega) [c6, k6]
      rw [← q4]
      refine num_c (by omega) (by omega) ?_
      simp (disch := omega)
      have m7 : Mod (· = ob) g6 (hset g6 ⟨ob, 0, none⟩ v6) := Mod.set g6 ⟨ob, 0, none⟩ v6
      have box7 : (hset g6 ⟨ob, 0, none⟩ v6)[ob]? = Option.some (.cells #[v6] 23) := obj_set box6
      refine H _ (od ++ (goF (goneS s id).H L).2.2) (gl.set id.toNat true) v6 _ ⟨(lv3.of_ext x6).modT box6 (by decide) (by decide) (by decide) I.obb m7, D1, box7, ?_, ?_, ?_, I.gvb, I.obb, by rw [List.length_set]; exact I.glen, I.few⟩ (List.length_set ..) (fun _ _ => ?_) ?_ ?_
      · rw [List.map_append]
        exact o6.mod m7 (fun b hb e => by have := fb6 b hb; have : b = ob := e; omega)
      · rw [hgv]
        exact (gone3.ext x6).mod m7 (fun b hb e => by cases hb; exact nf5 e)
      · exact fun b hb => by have := fb6 b hb; have := lv3.ext.size; omega
      · unfold Lk.all at D2 ⊢
        simp only [List.length_append] at D2 ⊢
        omega
      · unfold Lk.all at D2 ⊢
        simp only [List.length_append] at D2 ⊢
        omega
      · exact ((((Mod.of_ext e1).trans m2 (fun b _ e => .inr (.inr (by rw [hgbb]; exact congrArg Option.some (Eq.symm e))))).trans m3 (fun b _ e => .inl e)).extIn x6).trans m7 (fun b _ e => .inr (.inl e))
  · have hiE : i = od.length := by omega
    subst hiE
    simp (disch := omega)
    refine H s od gl ov g I1 rfl (fun hk hne => ?_) (Nat.le_refl _) (.of_ext e1)
    exfalso
    have hH : s.H = [] := by
      rcases hh : s.H with _ | ⟨x, l⟩
      · rfl
      · have hx : x.key ∈ s.H.map (·.key) := by rw [hh]; simp
        obtain ⟨h1, h2⟩ := (I.inv.live _).2 hx
        obtain ⟨j, hj, e⟩ := List.getElem_of_mem h1
        have := hgo hk j hj hj
        rw [e, h2] at this
        cases this
    exact hne (by unfold Lk.all; rw [hH, I.inv.empty hH]; rfl)
end Go.Proofs.Ytlligpgjkmfhpaa
