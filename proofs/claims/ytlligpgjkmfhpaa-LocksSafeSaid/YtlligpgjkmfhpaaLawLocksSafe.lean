/- What is proved: the law palimpsestlaw23.LocksSafe returns true for every input, and its arguments read as they did. No conditions. -/
import Derived.Test.YtlligpgjkmfhpaaRows
import Derived.Test.YtlligpgjkmfhpaaLock21
set_option linter.unusedSimpArgs false
set_option linter.unusedVariables false
namespace Go.Proofs.Ytlligpgjkmfhpaa
open Go.Vc
variable {K : Value → Heap → Prop} {h : Heap}

structure SfI (o g : Heap) (p ob n : Nat) (s : Lk) (some : List Lx) (od : List Int) (gl : List Bool) (w ov gv : Value) : Prop where
  fin : FinI o g p ob s some od gl ov gv
  own : OwnL g w some
  blk : ∀ b, blkV w = Option.some b → o.size ≤ b
  gln : gl.length = n

theorem InvL.init {s : Lk} {n : Nat} (sH : s.H = []) (sW : s.W = []) (stk : s.tk = 0) : InvL [] s [] (List.replicate n false) := by
  have hall : s.all = [] := by unfold Lk.all; rw [sH, sW]; rfl
  have hg : ∀ k, goneL (List.replicate n false) k = false := fun k => by
    unfold goneL
    rw [List.getElem?_replicate]
    split <;> rfl
  exact ⟨⟨fun x hx => (by rw [hall] at hx; cases hx), fun y hy => (by cases hy), fun k hk => absurd hk (Nat.not_lt_zero _), by rw [stk]; rfl, by rw [hall]; simp⟩, fun x hx => (by rw [hall] at hx; cases hx), by rw [hall]; simp, .nil, fun k hk => (by cases hk), fun k => by rw [sH]; simp, fun k h0 h1 => (by simp at h1; omega), fun x hx => (by rw [sW] at hx; cases hx), fun k h0 h1 => (by rw [hg] at h1; cases h1), fun x hx => (by rw [sH] at hx; cases hx), fun x hx => (by rw [sW] at hx; cases hx), .nil, fun x hx => (by rw [sW] at hx; cases hx)⟩
structure Gh where
  i : Nat
  at_ : Nat
  w : Value
  some : List Lx
  s : Lk
  od : List Int
  gl : List Bool
  ov : Value

set_option maxHeartbeats 1000000 in
theorem LocksSafe_c {v dv : Value} {xs : List Lx} {ds : List Int} (hv : Lxs h v xs) (hlen : xs.length < 9223372036854775808) (hd : IntS h dv ds) (hdl : ds.length < 9223372036854775808) (H : ∀ h', Ext h h' → K (.bool true) h') : CallsH Try.prog 3 #[v, dv] h K ⟨⟩ := by
  refine n3_calls ?_
  unfold n3
  obtain ⟨o0, c, rfl⟩ := hv.form
  obtain ⟨d0, dc, rfl⟩ := hd.form
  simp (disch := omega)
  refine Split.mk (fun hbig => ?_) (fun hsm => ?_)
  · simp (disch := omega)
    refine works_c fun g2 e2 => ?_
    exact H _ e2
  simp (disch := omega)
  refine Split.mk (fun hbig => ?_) (fun hsm2 => ?_)
  · simp (disch := omega)
    refine works_c fun g2 e2 => ?_
    exact H _ e2
  simp (disch := omega)
  refine New_v (.refl h) fun p s g1 e1 hs1 sH sW sw stk _ _ => ?_
  unfold ptrV
  simp (disch := omega)
  refine (fun key => key _ ?_ : (∀ g2, SfI h g2 p g1.size xs.length s [] [] (List.replicate xs.length false) (.slice none 0 0) (.slice none 0 0) (.slice (Option.some ⟨(g1.push (.cells #[.slice none 0 0] 23)).size, 0, none⟩) xs.length xs.length) → LoopC 3 _ _ g2 ⟨⟩) → _) (fun g2 I0 => ?_)
  · have e2 : Ext g1 ((g1.push (.cells #[.slice none 0 0] 23)).push (.cells (List.replicate xs.length (.bool false)).toArray 4)) := (by repeat' (first | (with_reducible exact Ext.refl _) | (with_reducible assumption) | (with_reducible refine push_ext ?_) | (with_reducible refine hset_ext ?_ ?_) | (with_reducible refine Ext.trans ?_ (by assumption)) | omega | (simp; done) | (simp; omega) | (refine Ext.size ?_) | (refine Nat.le_succ_of_le (Ext.size ?_))))
    have z1 := hs1.ext.size
    refine ⟨⟨hs1.of_ext e2, .init sH sW stk, (get_push (by simp)).trans (get_pushed rfl), .inl ⟨rfl, rfl⟩, .inr ⟨_, xs.length, xs.length, [], rfl, by simp, Nat.le_refl _, ?_, by simp⟩, fun b hb => (by cases hb), fun b hb => (by cases hb; simp; omega), by omega, by simp, by simp⟩, .inl ⟨rfl, rfl⟩, fun b hb => (by cases hb), by simp⟩
    rw [get_pushed (by simp)]
    simp
  generalize (Value.slice (Option.some { block := (Array.push g1 (Obj.cells #[Value.slice none 0 0] 23)).size, off := 0 }) xs.length xs.length) = gv at I0 ⊢
  generalize g1.size = ob at I0 ⊢
  refine loopX3 (α := Gh) (fun a => a.w) (fun a => .int .i64 a.at_) (fun a => .int .i64 a.i) (fun a g => a.i ≤ xs.length ∧ SfI h g p ob xs.length a.s a.some a.od a.gl a.w a.ov gv ∧ a.at_ ≤ a.i ∧ a.some.length ≤ a.i) (fun a => xs.length - a.i) ⟨0, 0, .slice none 0 0, [], s, [], List.replicate xs.length false, .slice none 0 0⟩ ⟨rfl, rfl, rfl⟩ ⟨by simp, I0, by simp, by simp⟩ ?_
  rintro ⟨i, at_, w, some, s, od, gl, ov⟩ g ⟨hi, I, hat, hsl⟩ X hX
  dsimp only at hi I hat hsl hX ⊢
  obtain ⟨wa, wc, hw, hwc⟩ := I.own.form
  by_cases hin : i < xs.length
  · obtain ⟨a, rfl, -, hc⟩ := hv.some (by omega)
    have hcs := (hv.ext I.fin.lv.ext).cell i hin
    generalize xs[i] = x at hcs
    obtain ⟨xid, xa, xl, xal⟩ := x
    obtain ⟨c0, c1, c2, c3⟩ := hcs
    dsimp only at c0 c1 c2 c3
    simp (disch := omega)
    refine JoinN_in2 (fun w' at' g' => ∃ a' : Gh, w' = a'.w ∧ at' = .int .i64 a'.at_ ∧ SfI h g' p ob xs.length a'.s a'.some a'.od a'.gl a'.w a'.ov gv ∧ a'.at_ ≤ i + 1 ∧ a'.some.length ≤ i + 1) (fun kk hkk => ?_) (fun w' at' g' hg' => ?_)
    · refine JoinN.mk ?_
      rw [hw]
      simp (disch := omega) [c0, c1, c2, c3]
      refine (fun key => key _ ?_ ?_ : (∀ g0, Ext g g0 → g0[g.size]? = Option.some (.cells #[.int .i64 some.length, .int .i64 xa, .int .i64 xl, .bool xal] 29) → CallsH Try.prog 9 _ g0 _ ⟨⟩) → _) (fun g0 E0 X0 => ?_)
      · exact (by repeat' (first | (with_reducible exact Ext.refl _) | (with_reducible assumption) | (with_reducible refine push_ext ?_) | (with_reducible refine hset_ext ?_ ?_) | (with_reducible refine Ext.trans ?_ (by assumption)) | omega | (simp; done) | (simp; omega) | (refine Ext.size ?_) | (refine Nat.le_succ_of_le (Ext.size ?_))))
      · exact obj_set (obj_set (obj_set (obj_set (obj_set (get_pushed rfl)))))
      rw [← hw]
      refine rMay_c (id := some.length) (a := xa) (l := xl) (al := xal) fun g1 e1 => ?_
      have X1 : g1[g.size]? = Option.some (.cells #[.int .i64 some.length, .int .i64 xa, .int .i64 xl, .bool xal] 29) := (e1.block _ (get_some_lt X0)).trans X0
      have E1 := E0.trans e1
      have F1 := I.fin.ext E1
      have own1 : OwnL g1 w some := OwnT.ext I.own E1
      have y0 := cellOf (i := 0) X1 rfl
      have y1 := cellOf (i := 1) X1 rfl
      have y2 := cellOf (i := 2) X1 rfl
      have y3 := cellOf (i := 3) X1 rfl
      by_cases hm : MayP some.length xa xl
      · rw [decide_eq_true hm]
        simp (disch := omega) [y0, y1, y2, y3]
        have htk := I.fin.inv.rec_.tk
        have hln := I.fin.inv.rec_.len
        refine Ask_v (id := some.length) (a := xa) (l := xl) (al := xal) F1.lv hm I.fin.inv.rec_.fresh (by omega) (by omega) fun b3 w2 g2 A2 m2 => ?_
        have own2 : OwnL g2 w some := OwnT.mod own1 m2 (fun b hb e => F1.lv.lks.toLkAt.notL own1 hb e)
        have X2 : g2[g.size]? = Option.some (.cells #[.int .i64 some.length, .int .i64 xa, .int .i64 xl, .bool xal] 29) := (m2.block _ (get_some_lt X1) (fun e => by have := I.fin.lv.lks.toLkAt.footlt e; omega)).trans X1
        have f0 := cellOf (i := 0) X2 rfl
        have f1 := cellOf (i := 1) X2 rfl
        have f2 := cellOf (i := 2) X2 rfl
        have f3 := cellOf (i := 3) X2 rfl
        have D := I.fin.inv.ask (b := b3) (w' := w2) (al := xal) hm
        obtain ⟨nf1, nf2, nf3⟩ := F1.nofoot
        have box2 := (m2.block _ (get_some_lt F1.box) nf1).trans F1.box
        have ord2 := F1.ord.mod m2 (fun b hb e => (nf2 b hb).1 e)
        have gone2 := F1.gone.mod m2 (fun b hb e => (nf3 b hb).1 e)
        generalize (if couldS s ⟨some.length, xa, xl, xal, s.tk + 1⟩ then ({ s with H := s.H ++ [⟨some.length, b3, ⟨some.length, xa, xl, xal, s.tk + 1⟩⟩], tk := s.tk + 1 } : Lk) else { s with W := s.W ++ [⟨some.length, b3, ⟨some.length, xa, xl, xal, s.tk + 1⟩⟩], w := w2, tk := s.tk + 1 }) = s2 at A2 D
        simp (disch := omega)
        refine num_c (by omega) (by omega) ?_
        simp (disch := omega) [f0, f1, f2, f3]
        have hod := F1.inv.odlen
        have w0 : ∀ b, blkV w = Option.some b → b ≠ ob ∧ b ≠ g.size := fun b hb => ⟨OwnT.ne own2 hb box2 (by decide), fun e => by have := OwnT.lt I.own hb; omega⟩
        refine own2.push (x := ⟨some.length, xa, xl, xal⟩) (by omega) (by kernel_rfl) fun w3 g3 o3 m3 f3' => ?_
        have A3 : Lv h g3 p s2 := A2.modL own2 m3 I.blk
        have box3 := (m3.block _ (get_some_lt box2) (fun e => (w0 _ e).1 rfl)).trans box2
        have ord3 := ord2.mod m3 (fun b hb e => by obtain ⟨arr, ha⟩ := OwnT.tag own2 e; exact ord2.ne hb ha (by decide) rfl)
        have gone3 := gone2.mod m3 (fun b hb e => by obtain ⟨arr, ha⟩ := OwnT.tag own2 e; exact gone2.ne hb ha (by decide) rfl)
        have X3 := (m3.block _ (get_some_lt X2) (fun e => (w0 _ e).2 rfl)).trans X2
        have blk3 : ∀ b, blkV w3 = Option.some b → h.size ≤ b := fun b hb => (f3' b hb).elim (I.blk b) (fun e => by have := A2.ext.size; omega)
        have gn3 : (some ++ [(⟨some.length, xa, xl, xal⟩ : Lx)]).length ≤ gl.length := by rw [I.gln]; simp; omega
        have fw3 : (some ++ [(⟨some.length, xa, xl, xal⟩ : Lx)]).length ≤ 1000 := by simp; omega
        refine JoinN_in0 (fun g4 => ∃ ov4 od4, SfI h g4 p ob xs.length s2 (some ++ [⟨some.length, xa, xl, xal⟩]) od4 gl w3 ov4 gv) (fun kj hkj => ?_) (fun g4 hg4 => ?_)
        · cases hc : couldS s ⟨some.length, xa, xl, xal, s.tk + 1⟩ with
          | false =>
            rw [hc] at D
            simp (disch := omega)
            exact hkj _ ⟨ov, od, ⟨A3, D, box3, ord3, gone3, F1.ovb, F1.gvb, F1.obb, gn3, fw3⟩, o3, blk3, I.gln⟩
          | true =>
            rw [hc] at D
            have z0 := cellOf (i := 0) box3 rfl
            have z1 := cellOf (i := 0) X3 rfl
            simp (disch := omega) [z0, z1]
            refine Hp_appP (e := 3) (by_ := 8) (by kernel_rfl) (by kernel_rfl) ord3 rfl (by simp; omega) (by omega) fun ov4 g4 o4 m4 f4 => ?_
            have nb : ∀ b, blkV ov = Option.some b → b ≠ ob := fun b hb => (nf2 b hb).2
            have box4 := (m4.block _ (get_some_lt box3) (fun e => nb _ e rfl)).trans box3
            have k4 := cellOf (i := 0) box4 rfl
            have j4 := frzOf (i := 0) box4
            obtain ⟨q1, q2, q3, q4, -⟩ := o4.form (by omega)
            rw [q4]
            simp (disch := omega) [k4, j4]
            rw [← q4]
            have hov : ∀ b, blkV ov4 = Option.some b → h.size ≤ b ∧ b ≠ ob := fun b hb => (f4 b hb).elim (fun e => ⟨F1.ovb b e, nb b e⟩) (fun e => ⟨by have := A3.ext.size; omega, by have := get_some_lt box3; omega⟩)
            have m5 : Mod (· = ob) g4 (hset g4 ⟨ob, 0, none⟩ ov4) := Mod.set g4 ⟨ob, 0, none⟩ ov4
            have mm : Mod (fun b => blkV ov = Option.some b ∨ b = ob) g3 (hset g4 ⟨ob, 0, none⟩ ov4) := (m4.mono (fun b _ e => .inl e)).trans m5 (fun b _ e => .inr e)
            have foT : ∀ b, (blkV ov = Option.some b ∨ b = ob) → ∃ arr e, g3[b]? = Option.some (.cells arr e) ∧ (e = 3 ∨ e = 23) := fun b e => e.elim (fun e => by obtain ⟨arr, ha⟩ := ord3.tag e; exact ⟨arr, _, ha, .inl rfl⟩) (fun e => ⟨_, _, e ▸ box3, .inr rfl⟩)
            have A5 : Lv h (hset g4 ⟨ob, 0, none⟩ ov4) p s2 := by
              refine ⟨A3.lks.mod mm (fun b hb e => ?_) (fun y hy e => ?_), mm.ext_from A3.ext (fun b hb e => ?_), A3.foot, A3.req⟩
              · obtain ⟨arr, e', h1, h2⟩ := foT b e
                rcases h2 with rfl | rfl
                · exact A3.lks.toLkAt.notT h1 (by decide) (by decide) hb
                · exact A3.lks.toLkAt.notT h1 (by decide) (by decide) hb
              · obtain ⟨arr, e', h1, h2⟩ := foT _ e
                have h3 := (A3.lks.rq y hy).1.1
                unfold RqAt at h3
                rw [h1] at h3
                rcases h2 with rfl | rfl <;> cases h3
              · rcases e with e | e
                · have := F1.ovb b e; omega
                · have := F1.obb; omega
            refine hkj _ ⟨ov4, od ++ [(some.length : Int)], ⟨A5, D, obj_set box4, ?_, ?_, fun b hb => (hov b hb).1, F1.gvb, F1.obb, gn3, fw3⟩, ?_, blk3, I.gln⟩
            · rw [List.map_append]
              exact o4.mod m5 (fun b hb e => (hov b hb).2 e)
            · refine gone3.mod mm (fun b hb e => ?_)
              obtain ⟨arr, e', h1, h2⟩ := foT b e
              rcases h2 with rfl | rfl
              · exact gone3.ne hb h1 (by decide) rfl
              · exact gone3.ne hb h1 (by decide) rfl
            · refine OwnT.mod o3 mm (fun b hb e => ?_)
              obtain ⟨arr, e', h1, h2⟩ := foT b e
              rcases h2 with rfl | rfl
              · exact OwnT.ne o3 hb h1 (by decide) rfl
              · exact OwnT.ne o3 hb h1 (by decide) rfl
        · obtain ⟨ov4, od4, I4⟩ := hg4
          generalize hso : some ++ [(⟨some.length, xa, xl, xal⟩ : Lx)] = some5 at I4 gn3 fw3 o3
          have hso5 : some5.length = some.length + 1 := by rw [← hso]; simp
          by_cases had : at_ < ds.length
          · obtain ⟨da, rfl, hda⟩ := (hd.ext I4.fin.lv.ext).cell at_ had
            simp (disch := omega) [hda]
            refine Split.mk (fun hd3 => ?_) (fun hd3 => ?_)
            · have k4 := cellOf (i := 0) I4.fin.box rfl
              simp (disch := omega) [hda, k4]
              refine finish_c I4.fin fun s5 od5 gl5 ov5 g5 I5 hgl5 _ _ m5 => ?_
              have own5 := OwnT.mod I4.own m5 (fun b hb e => by
                rcases e with e | e | e
                · exact I4.fin.lv.lks.toLkAt.notL I4.own hb e
                · exact OwnT.ne I4.own hb I4.fin.box (by decide) e
                · obtain ⟨arr, ha⟩ := I4.fin.gone.tag e
                  exact OwnT.ne I4.own hb ha (by decide) rfl)
              simp (disch := omega)
              refine apart_c I5.lv.lks.toLkAt own5 (by omega) I5.inv.rec_ I5.inv.apart I5.inv.why fun g6 e6 => ?_
              simp (disch := omega)
              exact hkk _ _ _ ⟨⟨i, at_ + 1, w3, some5, s5, od5, gl5, ov5⟩, rfl, by simp, ⟨I5.ext e6, OwnT.ext own5 e6, I4.blk, hgl5.trans I4.gln⟩, by dsimp only; omega, by dsimp only; omega⟩
            · simp (disch := omega)
              refine apart_c I4.fin.lv.lks.toLkAt I4.own (by omega) I4.fin.inv.rec_ I4.fin.inv.apart I4.fin.inv.why fun g6 e6 => ?_
              simp (disch := omega)
              exact hkk _ _ _ ⟨⟨i, at_ + 1, w3, some5, s2, od4, gl, ov4⟩, rfl, by simp, ⟨I4.fin.ext e6, OwnT.ext I4.own e6, I4.blk, I4.gln⟩, by dsimp only; omega, by dsimp only; omega⟩
          · simp (disch := omega)
            refine apart_c I4.fin.lv.lks.toLkAt I4.own (by omega) I4.fin.inv.rec_ I4.fin.inv.apart I4.fin.inv.why fun g6 e6 => ?_
            simp (disch := omega)
            exact hkk _ _ _ ⟨⟨i, at_ + 1, w3, some5, s2, od4, gl, ov4⟩, rfl, by simp, ⟨I4.fin.ext e6, OwnT.ext I4.own e6, I4.blk, I4.gln⟩, by dsimp only; omega, by dsimp only; omega⟩
      · rw [decide_eq_false hm]
        simp (disch := omega)
        exact hkk _ _ _ ⟨⟨i, at_, w, some, s, od, gl, ov⟩, rfl, rfl, ⟨F1, own1, I.blk, I.gln⟩, by dsimp only; omega, by dsimp only; omega⟩
    · obtain ⟨a', rfl, rfl, I', h1, h2⟩ := hg'
      simp (disch := omega)
      exact hX ⟨i + 1, a'.at_, a'.w, a'.some, a'.s, a'.od, a'.gl, a'.ov⟩ _ _ _ _ rfl rfl (by simp) ⟨hin, I', h1, h2⟩ (by dsimp only; omega)
  · have hiE : i = xs.length := by omega
    subst hiE
    simp (disch := omega)
    clear hX hv hd
    refine loopX1 (α := Gh) (fun a => .int .i64 a.i) (fun a g' => a.i ≤ some.length + 1 ∧ SfI h g' p ob xs.length a.s some a.od a.gl w a.ov gv ∧ (a.s.all.length + a.i ≤ some.length ∨ a.s.all.length = 0)) (fun a => some.length + 1 - a.i) ⟨0, 0, w, some, s, od, gl, ov⟩ rfl ⟨by simp, I, .inl (by have := I.fin.inv.rec_.len; simpa using this)⟩ ?_
    clear I
    rintro ⟨j, u1, u2, u3, s, od, gl, ov⟩ g' ⟨hj, I, hdone⟩ X hX
    dsimp only at hj I hdone hX ⊢
    have k4 := cellOf (i := 0) I.fin.box rfl
    rw [hw]
    by_cases hjl : j < some.length + 1
    · simp (disch := omega) [k4]
      refine finish_c I.fin fun s5 od5 gl5 ov5 g5 I5 hgl5 hless hle m5 => ?_
      have own5 := OwnT.mod I.own m5 (fun b hb e => by
        rcases e with e | e | e
        · exact I.fin.lv.lks.toLkAt.notL I.own hb e
        · exact OwnT.ne I.own hb I.fin.box (by decide) e
        · obtain ⟨arr, ha⟩ := I.fin.gone.tag e
          exact OwnT.ne I.own hb ha (by decide) rfl)
      simp (disch := omega)
      rw [← hw]
      refine apart_c I5.lv.lks.toLkAt own5 (by have := I5.few; omega) I5.inv.rec_ I5.inv.apart I5.inv.why fun g6 e6 => ?_
      simp (disch := omega)
      refine hX ⟨j + 1, 0, w, some, s5, od5, gl5, ov5⟩ _ _ (by simp) ⟨by dsimp only; omega, ⟨I5.ext e6, OwnT.ext own5 e6, I.blk, hgl5.trans I.gln⟩, ?_⟩ (by dsimp only; omega)
      dsimp only
      by_cases he : s.all = []
      · rw [he] at hle
        simp at hle
        right; rw [hle]; rfl
      · have := hless rfl he
        omega
    · have h0 : s.all.length = 0 := by omega
      have hall : s.H = [] ∧ s.W = [] := by
        unfold Lk.all at h0
        rw [List.length_append] at h0
        exact ⟨List.length_eq_zero_iff.1 (by omega), List.length_eq_zero_iff.1 (by omega)⟩
      have hod := I.fin.inv.all_od hall.2
      simp (disch := omega)
      refine Len_c I.fin.lv.lks.toLkAt ?_
      rw [hall.1, hall.2]
      obtain ⟨oa, on, oc, hov, hon, hoc, hone⟩ := I.fin.ord.form (by omega)
      have hon' : od.length = on := by simpa using hon
      subst hon'
      rw [hov] at k4
      simp (disch := omega) [k4]
      have odc : ∀ {g2 : Heap}, Ext g' g2 → ∀ (t : Nat) (ht : t < od.length), ∃ b, oa = Option.some ⟨b, 0, none⟩ ∧ hcell g2 (elt ⟨b, 0, none⟩ t) = Option.some (.int .i64 od[t]) := fun e t ht => by
        obtain ⟨b, hb⟩ := hone (by intro e; rw [List.map_eq_nil_iff] at e; rw [e] at ht; cases ht)
        subst hb
        have := I.fin.ord.ext e
        rw [hov] at this
        have := (this.elt (i := t) (by simpa using ht)).1
        exact ⟨b, rfl, by simpa using this⟩
      have hfew := I.fin.few
      refine loopX1 (fun i : Nat => .int .i64 i) (fun i g2 => Ext g' g2 ∧ i ≤ od.length) (fun i => od.length - i) 0 rfl ⟨.refl _, by omega⟩ ?_
      rintro i g2 ⟨e2, hi2⟩ X2 hX2
      have k5 := hcell_ext e2 k4
      by_cases hil : i < od.length
      · simp (disch := omega) [k5]
        refine loopX1 (fun j : Nat => .int .i64 j) (fun j g3 => Ext g' g3 ∧ j ≤ i) (fun j => i - j) 0 rfl ⟨e2, by omega⟩ ?_
        rintro j g3 ⟨e3, hj3⟩ X3 hX3
        have k6 := hcell_ext e3 k4
        by_cases hjl : j < i
        · obtain ⟨b, rfl, hi4⟩ := odc e3 i hil
          obtain ⟨b', hb', hj4⟩ := odc e3 j (by omega)
          cases hb'
          simp (disch := omega) [k6, hi4, hj4]
          refine Split.mk (fun hlt => ?_) (fun hlt => ?_)
          · have hinv := List.pairwise_iff_getElem.1 I.fin.inv.inv j i (by omega) hil hjl hlt
            have r1 := I.fin.inv.rng _ (List.getElem_mem hil)
            have r2 := I.fin.inv.rng _ (List.getElem_mem (show j < od.length by omega))
            generalize od[i] = x1 at *
            generalize od[j] = x2 at *
            obtain ⟨n1, rfl⟩ := Int.eq_ofNat_of_zero_le r1.1
            obtain ⟨n2, rfl⟩ := Int.eq_ofNat_of_zero_le r2.1
            have hn1 : n1 < some.length := by omega
            have hn2 : n2 < some.length := by omega
            have hsx := OwnL.lxs (OwnT.ext I.own e3 : OwnL g3 w some)
            rw [hw] at hsx
            obtain ⟨sa', rfl, -, -⟩ := hsx.some (by omega)
            obtain ⟨p0, p1, p2, p3⟩ := hsx.cell n1 hn1
            obtain ⟨q0, q1, q2, q3⟩ := hsx.cell n2 hn2
            have o1 := I.fin.inv.rec_.ok _ (List.getElem_mem hn1)
            have o2 := I.fin.inv.rec_.ok _ (List.getElem_mem hn2)
            have hv1 : some[n1].val = .agg #[.int .i64 some[n1].id, .int .i64 some[n1].a, .int .i64 some[n1].l, .bool some[n1].al] := rfl
            have hv2 : some[n2].val = .agg #[.int .i64 some[n2].id, .int .i64 some[n2].a, .int .i64 some[n2].l, .bool some[n2].al] := rfl
            simp (disch := omega) [k6, hi4, hj4, p0, p1, p2, p3, q0, q1, q2, q3]
            rw [← hv1, ← hv2]
            refine lawAgainst_c (x := some[n2]) (y := some[n1]) o2 o1 fun g5 e5 => ?_
            have hk : agst (some[n2].rq 0) (some[n1].rq 0) = false := by
              unfold agstK at hinv
              rw [Int.toNat_natCast, Int.toNat_natCast, List.getElem?_eq_getElem hn1, List.getElem?_eq_getElem hn2] at hinv
              exact hinv
            rw [hk]
            simp (disch := omega)
            exact hX3 (j + 1) _ _ (by simp) ⟨e3.trans e5, by omega⟩ (by omega)
          · simp (disch := omega)
            exact hX3 (j + 1) _ _ (by simp) ⟨e3, by omega⟩ (by omega)
        · simp (disch := omega)
          exact hX2 (i + 1) _ _ (by simp) ⟨e3, by omega⟩ (by omega)
      · simp (disch := omega) [k5]
        exact works_c fun g10 e11 => H _ ((I.fin.lv.ext.trans e2).trans e11)
end Go.Proofs.Ytlligpgjkmfhpaa
namespace Go.Proofs.Ytlligpgjkmfhpaa.locksSafe
open Go.ChangeShapes Go.WideShapes Go.ChangeAt Go.RowKit Go.Joins Go.Vc

theorem own : ownKnob Try.prog.godebug = none := by kernel_rfl
theorem laidOut : laidOutB Try.prog = true := by kernel_rfl

set_option maxRecDepth 100000 in
set_option maxHeartbeats 1000000 in
theorem lifted (os : Os) (started : os.Started) (H : Type) (enc : TypeId × Value → H) :
    ReturnsInHanded {} Try.checked os 3 .any (Rows.locksSafeSpec.pre6 enc Try.prog Try.f3 Rows.locksSafeRow.domain false) (Rows.locksSafeSpec.post enc Try.prog Try.f3 false true false false) := by
  refine returnsInHanded_of_change (C := Try.checked) own started (by kernel_rfl) Try.func3
    (ChangeSpec.witness6 (enc := enc) (C := Try.checked) false ⟨#[], #[.slice none 0 0, .slice none 0 0], []⟩ 8 (by kernel_rfl) (by kernel_rfl) (by kernel_rfl) (by kernel_rfl)) ?_
  intro W base args ds gs before hval0 hW hcnd _
  have hval : ∀ (j : Nat) t v, Try.f3.params[j]? = some t → args[j]? = some v → Value.okWide Try.prog W .any base t v := hval0
  have hW' := hW
  obtain ⟨p, q, hA0, hV, rfl, hfz, hnd⟩ := hW
  have hA : DataW.TrodAll enc Try.prog W 0 (fun _ => true) true Try.f3.params.toList args.toList ds p := hA0
  rw [Try.params3] at hA hval
  obtain ⟨v0, vs0, d0, ds0, p0, q0, hargs, rfl, rfl, h0, r0⟩ := trodAll_cons hA
  obtain ⟨v1, vs1, d1, ds1, p1, q1, rfl, rfl, rfl, h1, r1⟩ := trodAll_cons r0
  obtain ⟨rfl, rfl, rfl⟩ := trodAll_nil r1
  obtain rfl : args = #[v0, v1] := by cases args; simp_all
  obtain ⟨xs, hxs, hml⟩ := open_locks (hval 0 22 v0 rfl rfl) h0
  obtain ⟨zs, hzs, hml2⟩ := open_ints (hval 1 23 v1 rfl rfl) h1
  refine ((LocksSafe_c (h := W.heap) hxs (Nat.lt_of_le_of_lt hml (by decide)) hzs (Nat.lt_of_le_of_lt hml2 (by decide)) (K := fun v h' => v = .bool true ∧ Ext W.heap h') (fun h' e => ⟨rfl, e⟩)).out W rfl).mono fun e W' ⟨v, he, hs, hv, hx⟩ => ?_
  exact ⟨v, he, hv ▸ law_post laidOut (by kernel_rfl) rfl (tb := 4) (by kernel_rfl) (by kernel_rfl) hW' (fun hg => by rw [hg]; rfl) (below_of hs hx)⟩

theorem proved : Rows.LocksSafeSaid :=
  OpenClaim.holds_of_wide 3 Try.f3 rfl rfl rfl rfl rfl rfl rfl ⟨rfl, rfl, rfl, rfl, rfl⟩ rfl rfl rfl rfl rfl (by kernel_rfl) Try.func3 (by kernel_rfl)
    (of_decide_eq_true (by kernel_rfl)) (by unfold Func.isWrapper; first | (rw [if_pos (by decide +kernel)]; kernel_rfl) | (rw [if_neg (by decide +kernel)]; exact ⟨rfl, rfl⟩))
    (fun os started H enc _ => lifted os started H enc)
end Go.Proofs.Ytlligpgjkmfhpaa.locksSafe
