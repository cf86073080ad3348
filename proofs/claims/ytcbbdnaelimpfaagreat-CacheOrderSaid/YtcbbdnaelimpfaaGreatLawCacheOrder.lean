/- What is proved: the law palimpsestlaw14.CacheOrder returns true for every input, and its arguments read as they did. No conditions. -/
import Derived.Test.YtcbbdnaelimpfaaGreatRows
import Derived.Test.YtcbbdnaelimpfaaGreatCacD
import Derived.Test.YtcbbdnaelimpfaaGreatCacC
import Derived.Test.YtcbbdnaelimpfaaGreatOpen
import Derived.Test.YtcbbdnaelimpfaaGreatClose
set_option linter.unusedSimpArgs false
set_option linter.unusedVariables false
namespace Go.Proofs.YtcbbdnaelimpfaaGreat
open Go.Vc Go.Sort
variable {K : Value → Heap → Prop} {h : Heap}

section
open Go Go.ChangeShapes Go.WideShapes Go.ChangeAt Go.RowKit Go.Deep
set_option maxRecDepth 100000 in
theorem open_order {H : Type} {enc : TypeId × Value → H} {w : World} {base : Nat} {sp : Nat → Bool} {held : Bool} {v : Value} {r : Go.Reach} {b0 : Nat} {ps : List MemPlace} {d : DataW H} (hval : Value.okWide Tryz.prog w r b0 51 v) (hd : DataW.Trod enc Tryz.prog w base sp held 51 v d ps) :
    ∃ (room : Int) (u1 u2 u3 : Value) (xs : List Sc) (fs : List (Int × Int)) (ks : List Int), v = .agg #[.int .i64 room, u1, u2, u3] ∧ Scs w.heap u1 xs ∧ Fas w.heap u2 fs ∧ Its w.heap u3 ks := by
  obtain ⟨cs, rfl, hl, hL⟩ := Laid.topFlds (L := [(3, 0, 1), (22, 1, 1), (48, 2, 1), (49, 3, 1)]) (n := 4) (by kernel_rfl) (by kernel_rfl) hval hd
  obtain ⟨c0, c1, c2, c3, rfl⟩ := len4 hl
  obtain ⟨n0, hn0, -⟩ := (hL 0 _ _ _ rfl).int (k := .i64) (by kernel_rfl)
  obtain rfl : c0 = .int .i64 n0 := by simpa using hn0
  obtain ⟨u, xs, hu, hx⟩ := laid_scs (hL 1 _ _ _ rfl)
  obtain rfl : c1 = u := by simpa using hu
  obtain ⟨u2, fs, hu2, hf⟩ := laid_fates (hL 2 _ _ _ rfl)
  obtain rfl : c2 = u2 := by simpa using hu2
  obtain ⟨u3, ks, hu3, hk⟩ := laid_ints (hL 3 _ _ _ rfl)
  obtain rfl : c3 = u3 := by simpa using hu3
  exact ⟨n0, c1, c2, c3, xs, fs, ks, rfl, hx, hf, hk⟩
end
structure Oz where
  i : Nat
  c : Ca
  s : St
  p : Ps
  w : Nat → Nat
  l : List Pms
  lv : Value
structure OzI (h0 g : Heap) (o sp wb : Nat) (z : Oz) : Prop where
  S : Ses g o (2 * z.i) z.c z.s z.p
  fr : Fr h0 g o z.c z.s
  sp : z.c.sp = sp
  O : Ord (z.c, z.p) z.w z.l
  lv : OwnG prT 4 g z.lv (z.l.flatMap prV)
  wr : OwnG bT 1 g (.slice (some ⟨wb, 0, none⟩) 8 8) ((wL z.w).map byteV)
  bar : Bar o z.c z.s (fun b => b = wb ∨ blkG z.lv = some b)
  low : h0.size ≤ wb ∧ ∀ b, blkG z.lv = some b → h0.size ≤ b
  wle : ∀ n, z.w n ≤ z.i
  few : z.l.length ≤ z.i
  least : ∀ r ∈ z.l, r.least < 256
theorem blk8 {wb b : Nat} (h : blkG (.slice (some ⟨wb, 0, none⟩) 8 8) = some b) : b = wb := (Option.some.inj h).symm
theorem OzI.lt {h0 g : Heap} {o sp wb : Nat} {z : Oz} (I : OzI h0 g o sp wb z) {b : Nat} (hb : b = wb ∨ blkG z.lv = some b) : b < g.size := hb.elim (fun e => e ▸ I.wr.lt rfl) (fun e => I.lv.lt e)
theorem OzI.ext {h0 g G : Heap} {o sp wb : Nat} {z : Oz} (I : OzI h0 g o sp wb z) (e : Ext g G) : OzI h0 G o sp wb z :=
  ⟨I.S.ext e, I.fr.go e, I.sp, I.O, I.lv.ext e, I.wr.ext e, I.bar, I.low, I.wle, I.few, I.least⟩
theorem OzI.parts {h0 g G : Heap} {o sp wb : Nat} {z : Oz} {c' : Ca} {s' : St} (I : OzI h0 g o sp wb z) (u : CUpd g G o z.c z.s c' s') : Fr h0 G o c' s' ∧ OwnG prT 4 G z.lv (z.l.flatMap prV) ∧ OwnG bT 1 G (.slice (some ⟨wb, 0, none⟩) 8 8) ((wL z.w).map byteV) ∧ Bar o c' s' (fun b => b = wb ∨ blkG z.lv = some b) :=
  ⟨I.fr.upd u, I.lv.mod u.mod (fun b hb hF => I.bar.ft b (.inr hb) hF), I.wr.mod u.mod (fun b hb hF => I.bar.ft b (.inl (blk8 hb)) hF), I.bar.upd u (fun b hb => I.lt hb)⟩
theorem OzI.upd {h0 g G : Heap} {o sp wb j : Nat} {z : Oz} {c' : Ca} {s' : St} {p' : Ps} (I : OzI h0 g o sp wb z) (u : CUpd g G o z.c z.s c' s') (S : Ses G o j c' s' p') (hj : j ≤ 2 * (z.i + 1)) (hsp : c'.sp = z.c.sp) (O : Ord (c', p') z.w z.l) : OzI h0 G o sp wb ⟨z.i + 1, c', s', p', z.w, z.l, z.lv⟩ := by
  obtain ⟨a1, a2, a3, a4⟩ := I.parts u
  exact ⟨S.mono hj, a1, hsp.trans I.sp, O, a2, a3, a4, I.low, fun n => Nat.le_succ_of_le (I.wle n), Nat.le_succ_of_le I.few, I.least⟩
theorem OzI.stay {h0 g : Heap} {o sp wb : Nat} {z : Oz} (I : OzI h0 g o sp wb z) : OzI h0 g o sp wb { z with i := z.i + 1 } :=
  I.upd (.refl I.S.at_) I.S (by omega) rfl I.O
theorem w_set {w : Nat → Nat} {n : Nat} (hn : n < 8) : ((wL w).map byteV).set n (byteV (UInt8.ofNat (w n + 1))) = (wL (fun m => if m = n then w n + 1 else w m)).map byteV := by
  apply List.ext_getElem?
  intro i
  rw [List.getElem?_set]
  unfold wL
  simp only [List.length_map, List.length_range, List.getElem?_map]
  by_cases e : n = i
  · subst e
    rw [if_pos rfl, if_pos hn, List.getElem?_range hn]
    simp
  · rw [if_neg e]
    by_cases h8 : i < 8
    · rw [List.getElem?_range h8]
      simp [Ne.symm e]
    · rw [List.getElem?_eq_none (by simp; omega)]; rfl
def orderT : Nat := 51
theorem prm_src {g : Heap} {r : Pms} : Src 4 (g.push (.cells #[.int .i64 (r.page : Nat), .int .i64 (r.other : Nat), .int .u8 (r.least : Nat), .int .u8 (r.need : Nat)] prT)) (.slice (some ⟨g.size, 0, none⟩) 1 1) 1 (prV r) := Src_new (vs := prV r) rfl
set_option maxHeartbeats 16000000 in
theorem CacheOrder_c {room : Int} {u1 u2 u3 : Value} {xs : List Sc} {fs : List (Int × Int)} {ks : List Int} (hx : Scs h u1 xs) (hf : Fas h u2 fs) (hk : Its h u3 ks) (H : ∀ h', Ext h h' → K (.bool true) h') : CallsH Tryz.prog 4 #[.agg #[.int .i64 room, u1, u2, u3]] h K ⟨⟩ := by
  refine n4_calls ?_
  unfold n4
  obtain ⟨xa, xc, rfl⟩ := hx.form
  obtain ⟨fa, fc, rfl, hfc⟩ := hf.form
  obtain ⟨ka, kc, rfl, hkc⟩ := hk.form
  have hxl := hx.len
  have hfl := hf.few
  have hkl := hk.few
  have works : ∀ g, Ext h g → CallsH Tryz.prog 8 #[] g K ⟨⟩ := fun g e => works_c fun g' e' => H _ (e.trans e')
  refine (⟨_, rfl⟩ : ∃ G, G = h.push (.cells #[.int .i64 room, .slice xa xs.length xc, .slice fa fs.length fc, .slice ka ks.length kc] orderT)).elim fun h0 eh0 => ?_
  have e0 : Ext h h0 := by rw [eh0]; exact (by repeat' (first | (with_reducible exact Ext.refl _) | (with_reducible assumption) | (with_reducible refine push_ext ?_) | (with_reducible refine hset_ext ?_ ?_) | (with_reducible refine Ext.trans ?_ (by assumption)) | omega | (simp; done) | (simp; omega) | (refine Ext.size ?_) | (refine Nat.le_succ_of_le (Ext.size ?_))))
  have x0 : h0[h.size]? = some (.cells #[.int .i64 room, .slice xa xs.length xc, .slice fa fs.length fc, .slice ka ks.length kc] orderT) := by rw [eh0]; exact get_pushed rfl
  have z0 : h0.size = h.size + 1 := by rw [eh0]; simp
  have hx0l := get_some_lt x0
  have cx0 := cellOf (i := 0) x0 rfl
  have cx1 := cellOf (i := 1) x0 rfl
  have cx2 := cellOf (i := 2) x0 rfl
  have cx3 := cellOf (i := 3) x0 rfl
  have hbox : ∀ (K : Value → Heap → Prop), Hp Tryz.prog false (Instr.box orderT (.agg #[.int .i64 room, .slice xa xs.length xc, .slice fa fs.length fc, .slice ka ks.length kc])) K h ⟨⟩ ↔ K (.pointer (some ⟨h.size, 0, none⟩)) h0 := fun K => by
    rw [eh0]
    simp (disch := omega) [orderT]
  clear eh0
  rw [show Instr.box 51 = Instr.box orderT from rfl, hbox]
  by_cases b1 : 60 < xs.length
  · simp (disch := omega) [cx0, cx1, cx2, cx3, b1]
    exact works _ e0
  by_cases b2 : room < 1
  · simp (disch := omega) [cx0, cx1, cx2, cx3, b1, b2]
    exact works _ e0
  by_cases b3 : 8 < room
  · simp (disch := omega) [cx0, cx1, cx2, cx3, b1, b2, b3]
    exact works _ e0
  by_cases b4 : 60 < fs.length
  · simp (disch := omega) [cx0, cx1, cx2, cx3, b1, b2, b3, b4]
    exact works _ e0
  by_cases b5 : 60 < ks.length
  · simp (disch := omega) [cx0, cx1, cx2, cx3, b1, b2, b3, b4, b5]
    exact works _ e0
  simp (disch := omega) [cx0, cx1, cx2, cx3, b1, b2, b3, b4, b5]
  refine refRight_c (hf.ext e0) ?_
  cases hr : fs.all rightF with
  | false =>
    simp (disch := omega)
    exact works _ e0
  | true =>
  simp (disch := omega) [cx2]
  obtain ⟨ro, rfl⟩ := Int.eq_ofNat_of_zero_le (show (0 : Int) ≤ room by omega)
  refine file_c (n := 4096) (by decide) (hf.ext e0) (by omega) (fun h1 e1 hr' => by rw [hr] at hr'; cases hr') (fun h1 sp s e1 _ st ps fo qs => ?_)
  have cx0' := hcell_ext e1 cx0
  have hsp : ptrV sp = .pointer (some ⟨sp, 0, none⟩) := rfl
  simp (disch := omega) [cx0']
  refine cNew_c (bits := 9) (room := ro) st ps rfl (by decide) (by decide) (by omega) (by omega) fun h2 o km pm wm e2 a2 ho fo2 => ?_
  have S0 := Ses.new a2 ps (by decide) (by decide)
  have X0 : Fr h0 h2 o (newC sp 9 ro km pm wm) s := ⟨e1.trans e2, fun b hb => hb.elim (fun e => by have := fo2 b e; have := e1.size; omega) (fun e => fo b e)⟩
  have hoo : ptrV o = .pointer (some ⟨o, 0, none⟩) := rfl
  simp (disch := omega) [hsp, hoo]
  refine num_c ?_
  simp (disch := omega)
  refine (⟨_, rfl⟩ : ∃ G, G = h2.push (.cells (Array.replicate 8 (Value.int .u8 0)) bT)).elim fun h3 eh3 => ?_
  have e3 : Ext h2 h3 := by rw [eh3]; exact (by repeat' (first | (with_reducible exact Ext.refl _) | (with_reducible assumption) | (with_reducible refine push_ext ?_) | (with_reducible refine hset_ext ?_ ?_) | (with_reducible refine Ext.trans ?_ (by assumption)) | omega | (simp; done) | (simp; omega) | (refine Ext.size ?_) | (refine Nat.le_succ_of_le (Ext.size ?_))))
  have p3 : h3[h2.size]? = some (.cells ((wL fun _ => 0).map byteV).toArray bT) := by rw [eh3]; exact get_pushed rfl
  rw [show h2.push (.cells (Array.replicate 8 (Value.int .u8 0)) 5) = h3 from eh3.symm]
  clear eh3
  have own3 : OwnG bT 1 h3 (.slice (some ⟨h2.size, 0, none⟩) 8 8) ((wL fun _ => 0).map byteV) :=
    .inr ⟨h2.size, 0, 8, 7, [], [], rfl, by rw [List.length_map, wL_len], Nat.le_refl _, rfl, by simpa using p3, by simp [wL_len]⟩
  have O3 : Ord (newC sp 9 ro km pm wm, ⟨some (fl0 4096), fs, 2⟩) (fun _ => 0) [] := by
    have hbt : ∀ i, bt (zeros 4096) i = 0 := fun i => bt_zeros 4096 i
    have hp0 : ∀ n : Nat, ∀ v, Poss ⟨some (fl0 4096), fs, 2⟩ (n * 512) v → v.toNat = 0 := fun n v hv => by
      obtain ⟨f, hf1, hv⟩ := hv
      cases hf1
      rcases hv with hv | ⟨q, hq, -, -⟩
      · rw [hv]
        show (bt (zeros 4096) (n * 512)).toNat = 0
        rw [hbt]; rfl
      · cases hq
    refine ⟨rfl, ⟨_, rfl⟩, (fun g hg => by cases hg), by show (zeros 4096).length = 4096; exact zeros_len _, fun n hn => ?_, fun n _ => by decide, fun n hn v hv => by rw [hp0 n v hv]; exact Nat.le_refl _, fun n hn _ v hv => hp0 n v hv, fun r hr => by cases hr⟩
    show bt (fillP ⟨some (fl0 4096), fs, 2⟩ 9 (n : Int)) 0 = _
    rw [fill_bt _ _ _ (by decide)]
    show bt (zeros 4096) _ = _
    rw [hbt]; rfl
  have I0 : OzI h0 h3 o sp h2.size ⟨0, newC sp 9 ro km pm wm, s, ⟨some (fl0 4096), fs, 2⟩, fun _ => 0, [], .slice none 0 0⟩ := by
    refine ⟨S0.ext e3, X0.go e3, rfl, O3, OwnG.nil, own3, Bar.new S0 (fun b hb => ?_), ⟨X0.ext.size, fun b hb => by cases hb⟩, fun _ => Nat.le_refl _, Nat.le_refl _, fun r hr => by cases hr⟩
    rcases hb with hb | hb
    · omega
    · cases hb
  refine loopX2 (α := Oz) (fun z => z.lv) (fun z => .int .i64 z.i) (fun z g => z.i ≤ xs.length ∧ OzI h0 g o sp h2.size z) (fun z => xs.length - z.i) _ ⟨rfl, rfl⟩ ⟨Nat.zero_le _, I0⟩ ?_
  rintro z g ⟨hi, I⟩ X hX
  have cg1 := hcell_ext I.fr.ext cx1
  have cg3 := hcell_ext I.fr.ext cx3
  by_cases hil : z.i < xs.length
  · obtain ⟨ad, c', hv, k0, k1, k2, k3, k4, k5⟩ := ((hx.ext e0).ext I.fr.ext).cell hil
    injection hv with hv1 _ hv3
    subst hv1
    have hxo := ((hx.ext e0).ext I.fr.ext).ok xs[z.i] (List.getElem_mem hil)
    have hxk := hxo.kind
    unfold i64 at hxk
    obtain ⟨p, hp⟩ := Int.eq_ofNat_of_zero_le (show 0 ≤ xs[z.i].page % 8 by omega)
    obtain ⟨q, hq⟩ := Int.eq_ofNat_of_zero_le (show 0 ≤ xs[z.i].other % 8 by omega)
    have hp8 : p < 8 := by omega
    have hq8 : q < 8 := by omega
    generalize xs[z.i] = x at *
    simp (disch := omega) [cg1, hil, k0, k3, k4, Hp_and7, hp, hq]
    refine JoinN_in1 (fun v G => ∃ z' : Oz, v = z'.lv ∧ z'.i = z.i + 1 ∧ OzI h0 G o sp h2.size z') (fun kk hkk => ?_) (fun v G hG => ?_)
    · simp (disch := omega) [cg1, k0]
      refine JoinN.mk (JoinN_in1 (fun v G => G = g ∧ v = .bool (decide (x.kind.tmod 6 = 0 ∨ x.kind.tmod 6 = 1 ∨ x.kind.tmod 6 = 2))) (fun k1 hk1 => ?_) (fun v G hG => ?_))
      · by_cases h1 : x.kind.tmod 6 = 0
        · simp (disch := omega) [h1]
          exact hk1 _ _ ⟨rfl, by simp [h1]⟩
        · by_cases h2 : x.kind.tmod 6 = 1
          · simp (disch := omega) [h1, h2]
            exact hk1 _ _ ⟨rfl, by simp [h2]⟩
          · by_cases h3 : x.kind.tmod 6 = 2
            · simp (disch := omega) [h1, h2, h3]
              exact hk1 _ _ ⟨rfl, by simp [h3]⟩
            · simp (disch := omega) [h1, h2, h3]
              exact hk1 _ _ ⟨rfl, by simp [h1, h2, h3]⟩
      have wcell : ∀ {g' : Heap} {w : Nat → Nat} {n : Nat}, OwnG bT 1 g' (.slice (some ⟨h2.size, 0, none⟩) 8 8) ((wL w).map byteV) → n < 8 → w n < 200 → hcell g' (elt ⟨h2.size, 0, none⟩ n) = some (.int .u8 (w n : Nat)) ∧ hfrozen g' (elt ⟨h2.size, 0, none⟩ n) = false := fun {g' w n} o hn hw => by
        have hlt : n < ((wL w).map byteV).length := by rw [List.length_map, wL_len]; exact hn
        obtain ⟨h1, h2⟩ := o.cell hlt
        rw [List.getElem_map, wL_get] at h1
        refine ⟨?_, h2⟩
        rw [h1]
        unfold byteV
        rw [UInt8.toNat_ofNat', Nat.mod_eq_of_lt (by omega)]
      rw [hG.1, hG.2]
      by_cases hwr : x.kind.tmod 6 = 0 ∨ x.kind.tmod 6 = 1 ∨ x.kind.tmod 6 = 2
      · rw [decide_eq_true hwr]
        have hwp := I.wle p
        have w0 := (wcell I.wr hp8 (by omega)).1
        simp (disch := omega) [w0]
        refine (⟨_, rfl⟩ : ∃ G, G = g.push (.cells #[.int .u8 ((z.w p : Int) + 1)] bT)).elim fun g1 eg1 => ?_
        have e1 : Ext g g1 := by rw [eg1]; exact (by repeat' (first | (with_reducible exact Ext.refl _) | (with_reducible assumption) | (with_reducible refine push_ext ?_) | (with_reducible refine hset_ext ?_ ?_) | (with_reducible refine Ext.trans ?_ (by assumption)) | omega | (simp; done) | (simp; omega) | (refine Ext.size ?_) | (refine Nat.le_succ_of_le (Ext.size ?_))))
        have hbv : Value.int .u8 ((z.w p : Int) + 1) = byteV (UInt8.ofNat (z.w p + 1)) := by
          unfold byteV
          rw [UInt8.toNat_ofNat', Nat.mod_eq_of_lt (by omega)]; rfl
        have B1 : OwnG bT 1 g1 (.slice (some ⟨g.size, 0, none⟩) 1 1) ([UInt8.ofNat (z.w p + 1)].map byteV) := by rw [eg1, hbv]; exact one_slice
        rw [show g.push (.cells #[.int .u8 ((z.w p : Int) + 1)] 5) = g1 from eg1.symm, ← hoo]
        clear eg1
        have z1 := e1.size
        have I1 := I.ext e1
        have hb9 : z.c.bits = 9 := I.O.b9
        refine write_x (b := [UInt8.ofNat (z.w p + 1)]) I1.S (by omega) (by decide) (by decide) B1.bytes (by simp) (fun d _ hd _ hF => ?_) (fun hne => ?_) (fun h4 s4 f rk hf' hr' hu hne u4 S4 => ?_) (fun h4 s4 f rk pb bb gg hf' hr' hu hok hgg u4 S4 => ?_)
        · have hd : d = g.size := (Option.some.inj hd).symm
          have := I.S.at_.lt hF
          omega
        · refine num_c ?_
          simp (disch := omega)
          exact hkk _ _ ⟨{ z with i := z.i + 1 }, rfl, rfl, I1.stay⟩
        · refine num_c ?_
          have O4 := useP_ord (x := (z.c, z.p)) hf' hr' I.S.coh I.S.wf.inv I.O (n := (p : Int)) (pb := 0) (bb := 0) (by omega) (by omega)
          have hsp4 := (useP_bits (x := (z.c, z.p)) hf' hr' I.S.wf.inv (n := (p : Int)) (pb := 0) (bb := 0)).2.2.1
          simp (disch := omega) [hne]
          exact hkk _ _ ⟨⟨z.i + 1, _, s4, _, z.w, z.l, z.lv⟩, rfl, rfl, I1.upd u4 S4 (by omega) hsp4 O4⟩
        · refine num_c ?_
          have O4 := useP_ord (x := (z.c, z.p)) hf' hr' I.S.coh I.S.wf.inv I.O (n := (p : Int)) (pb := pb) (bb := bb) (by omega) (by omega)
          have hsp4 := (useP_bits (x := (z.c, z.p)) hf' hr' I.S.wf.inv (n := (p : Int)) (pb := pb) (bb := bb)).2.2.1
          have ch4 := (useP_coh (x := (z.c, z.p)) hf' hr' I.S.coh I.S.wf.inv (n := (p : Int)) (pb := pb) (bb := bb) ⟨by omega, by dsimp only; rw [hb9]; omega⟩).1
          have O5 := O4.wrote ch4 hgg hp8 (by omega)
          rw [show ((0 : Int)).toNat = 0 from rfl] at u4 S4
          obtain ⟨a1, a2, a3, a4⟩ := I1.parts u4
          have hsp5 : ((useP f (p : Int) pb bb (z.c, z.p)).1.1.wrote (p : Int) 0 [UInt8.ofNat (z.w p + 1)]).sp = z.c.sp := hsp4
          generalize (useP f (p : Int) pb bb (z.c, z.p)).1.1.wrote (p : Int) 0 [UInt8.ofNat (z.w p + 1)] = c5 at *
          generalize (useP f (p : Int) pb bb (z.c, z.p)).1.2 = p5 at *
          obtain ⟨w4, f4⟩ := wcell a3 hp8 (by omega)
          simp (disch := omega) [w4, f4]
          rw [hbv]
          have m5 := Mod.set h4 (elt ⟨h2.size, 0, none⟩ p) (byteV (UInt8.ofNat (z.w p + 1)))
          have o5 := OwnG.set (u := byteV (UInt8.ofNat (z.w p + 1))) a3 (i := p) (by rw [List.length_map, wL_len]; exact hp8)
          rw [w_set hp8] at o5
          generalize hset h4 (elt ⟨h2.size, 0, none⟩ p) (byteV (UInt8.ofNat (z.w p + 1))) = h5 at *
          have hblk : (elt (⟨h2.size, 0, none⟩ : Addr) p).block = h2.size := elt_blk _ _
          rw [hblk] at m5
          have bw : Bar o c5 s4 (fun b => b = h2.size) := a4.mono (fun b hb => .inl hb)
          obtain ⟨arr, hwt⟩ := a3.tag (b := h2.size) rfl
          refine hkk _ _ ⟨⟨z.i + 1, c5, s4, p5, fun m => if m = p then z.w p + 1 else z.w m, z.l, z.lv⟩, rfl, rfl, (S4.modZ bw m5).mono (by dsimp only; omega), a1.modZ m5 (fun b hb => hb ▸ I.low.1), hsp5.trans I.sp, O5, a2.mod m5 (fun b hb e => a2.ne hb hwt (by decide) e), o5, a4, I.low, fun n => ?_, Nat.le_succ_of_le I.few, I.least⟩
          have := I.wle n
          dsimp only
          split <;> omega
      · rw [decide_eq_false hwr]
        simp (disch := omega)
        refine JoinN_in1 (fun v G => G = g ∧ v = .bool (decide (x.kind.tmod 6 = 3 ∨ x.kind.tmod 6 = 4))) (fun k1 hk1 => ?_) (fun v G hG => ?_)
        · by_cases h1 : x.kind.tmod 6 = 3
          · simp (disch := omega) [h1]
            exact hk1 _ _ ⟨rfl, by simp [h1]⟩
          · by_cases h2 : x.kind.tmod 6 = 4
            · simp (disch := omega) [h1, h2]
              exact hk1 _ _ ⟨rfl, by simp [h2]⟩
            · simp (disch := omega) [h1, h2]
              exact hk1 _ _ ⟨rfl, by simp [h1, h2]⟩
        rw [hG.1, hG.2]
        by_cases haf : x.kind.tmod 6 = 3 ∨ x.kind.tmod 6 = 4
        · rw [decide_eq_true haf]
          simp (disch := omega)
          rw [← hoo]
          refine after_s I.S (by omega) (fun e => ?_) (fun g2 _ _ hR e2 => ?_) (fun g2 _ _ _ hno e2 => ?_) (fun g2 c2 _ _ hnR hopq u2 W2 S2 => ?_)
          · refine num_c ?_
            simp (disch := omega)
            exact hkk _ _ ⟨{ z with i := z.i + 1 }, rfl, rfl, I.stay⟩
          · refine num_c ?_
            simp (disch := omega)
            exact hkk _ _ ⟨{ z with i := z.i + 1 }, rfl, rfl, (I.ext e2).stay⟩
          · have u1 := (CUpd.refl I.S.at_).ext e2
            have S1 := I.S.ext e2
            have O1 := I.O.kept (n := p) (t := q) hp8 hq8 hno
            have sp1 := I.sp
            refine num_c ?_
            obtain ⟨a1, a2, a3, a4⟩ := I.parts u1
            have hwp := I.wle p
            have hwq := I.wle q
            have wp := (wcell a3 hp8 (by omega)).1
            have wq := (wcell a3 hq8 (by omega)).1
            simp (disch := omega) [wp, wq]
            refine (⟨_, rfl⟩ : ∃ G1, G1 = Array.push g2 (.cells #[.int .i64 (p : Nat), .int .i64 (q : Nat), .int .u8 ((z.w p : Int) + 1), .int .u8 (z.w q : Nat)] prT)).elim fun G1 eG1 => ?_
            have eg1 : Ext g2 G1 := by rw [eG1]; exact (by repeat' (first | (with_reducible exact Ext.refl _) | (with_reducible assumption) | (with_reducible refine push_ext ?_) | (with_reducible refine hset_ext ?_ ?_) | (with_reducible refine Ext.trans ?_ (by assumption)) | omega | (simp; done) | (simp; omega) | (refine Ext.size ?_) | (refine Nat.le_succ_of_le (Ext.size ?_))))
            have sx : Src 4 G1 (.slice (some ⟨Array.size g2, 0, none⟩) 1 1) 1 (prV ⟨p, q, z.w p + 1, z.w q⟩) := by rw [eG1]; exact prm_src (r := ⟨p, q, z.w p + 1, z.w q⟩)
            rw [show Array.push g2 (.cells #[.int .i64 (p : Nat), .int .i64 (q : Nat), .int .u8 ((z.w p : Int) + 1), .int .u8 (z.w q : Nat)] 55) = G1 from eG1.symm]
            clear eG1
            have hfw := I.few
            have zz := eg1.size
            refine Hp_appendG (e := prT) (s := 4) (by_ := 24) (n := z.l.length) (k := 1) (by kernel_rfl) (by kernel_rfl) (a2.ext eg1) (flat4_len _) (by omega) sx (by simp [prV, one]) (by omega) (by omega) fun v' h' o' m' b' _ => ?_
            have hcat : z.l.flatMap prV ++ prV ⟨p, q, z.w p + 1, z.w q⟩ = (z.l ++ [(⟨p, q, z.w p + 1, z.w q⟩ : Pms)]).flatMap prV := by rw [List.flatMap_append]; simp
            rw [hcat] at o'
            have hbar := (a4.or (Bar.new (S1.ext eg1) (Z := fun b => G1.size ≤ b) (fun b hb => hb))).mono (Z' := fun b => b = h2.size ∨ blkG v' = some b) (fun b hb => hb.elim (fun e => .inl (.inl e)) (fun e => (b' b e).imp .inr id))
            have hbl : Bar o z.c z.s (fun b => blkG z.lv = some b) := a4.mono (fun b hb => .inr hb)
            obtain ⟨arr, hwt⟩ := a3.tag (b := h2.size) rfl
            have hlow := I.low
            refine hkk _ _ ⟨⟨z.i + 1, z.c, z.s, z.p, z.w, z.l ++ [⟨p, q, z.w p + 1, z.w q⟩], v'⟩, rfl, rfl, ((S1.ext eg1).modZ hbl m').mono (by dsimp only; omega), (a1.go eg1).modZ m' hlow.2, sp1, O1, o', (a3.ext eg1).mod m' (fun b hb e => a2.ne e hwt (by decide) (blk8 hb).symm.symm), hbar, ⟨hlow.1, fun b hb => ?_⟩, fun n => Nat.le_succ_of_le (I.wle n), ?_, fun r hr => ?_⟩
            · rcases b' b hb with e | e
              · exact hlow.2 b e
              · have := a1.ext.size; omega
            · dsimp only
              rw [List.length_append]
              show _ + 1 ≤ _
              omega
            · rcases List.mem_append.1 hr with hr | hr
              · exact I.least r hr
              · have : r = ⟨p, q, z.w p + 1, z.w q⟩ := by simpa using hr
                subst this
                dsimp only
                omega
          · have O1 := I.O.waited (n := p) (t := q) hp8 hq8 W2
            have sp1 : c2.sp = sp := by rw [W2.same]; exact I.sp
            refine num_c ?_
            obtain ⟨a1, a2, a3, a4⟩ := I.parts u2
            have hwp := I.wle p
            have hwq := I.wle q
            have wp := (wcell a3 hp8 (by omega)).1
            have wq := (wcell a3 hq8 (by omega)).1
            simp (disch := omega) [wp, wq]
            refine (⟨_, rfl⟩ : ∃ G1, G1 = Array.push g2 (.cells #[.int .i64 (p : Nat), .int .i64 (q : Nat), .int .u8 ((z.w p : Int) + 1), .int .u8 (z.w q : Nat)] prT)).elim fun G1 eG1 => ?_
            have eg1 : Ext g2 G1 := by rw [eG1]; exact (by repeat' (first | (with_reducible exact Ext.refl _) | (with_reducible assumption) | (with_reducible refine push_ext ?_) | (with_reducible refine hset_ext ?_ ?_) | (with_reducible refine Ext.trans ?_ (by assumption)) | omega | (simp; done) | (simp; omega) | (refine Ext.size ?_) | (refine Nat.le_succ_of_le (Ext.size ?_))))
            have sx : Src 4 G1 (.slice (some ⟨Array.size g2, 0, none⟩) 1 1) 1 (prV ⟨p, q, z.w p + 1, z.w q⟩) := by rw [eG1]; exact prm_src (r := ⟨p, q, z.w p + 1, z.w q⟩)
            rw [show Array.push g2 (.cells #[.int .i64 (p : Nat), .int .i64 (q : Nat), .int .u8 ((z.w p : Int) + 1), .int .u8 (z.w q : Nat)] 55) = G1 from eG1.symm]
            clear eG1
            have hfw := I.few
            have zz := eg1.size
            refine Hp_appendG (e := prT) (s := 4) (by_ := 24) (n := z.l.length) (k := 1) (by kernel_rfl) (by kernel_rfl) (a2.ext eg1) (flat4_len _) (by omega) sx (by simp [prV, one]) (by omega) (by omega) fun v' h' o' m' b' _ => ?_
            have hcat : z.l.flatMap prV ++ prV ⟨p, q, z.w p + 1, z.w q⟩ = (z.l ++ [(⟨p, q, z.w p + 1, z.w q⟩ : Pms)]).flatMap prV := by rw [List.flatMap_append]; simp
            rw [hcat] at o'
            have hbar := (a4.or (Bar.new (S2.ext eg1) (Z := fun b => G1.size ≤ b) (fun b hb => hb))).mono (Z' := fun b => b = h2.size ∨ blkG v' = some b) (fun b hb => hb.elim (fun e => .inl (.inl e)) (fun e => (b' b e).imp .inr id))
            have hbl : Bar o c2 z.s (fun b => blkG z.lv = some b) := a4.mono (fun b hb => .inr hb)
            obtain ⟨arr, hwt⟩ := a3.tag (b := h2.size) rfl
            have hlow := I.low
            refine hkk _ _ ⟨⟨z.i + 1, c2, z.s, z.p, z.w, z.l ++ [⟨p, q, z.w p + 1, z.w q⟩], v'⟩, rfl, rfl, ((S2.ext eg1).modZ hbl m').mono (by dsimp only; omega), (a1.go eg1).modZ m' hlow.2, sp1, O1, o', (a3.ext eg1).mod m' (fun b hb e => a2.ne e hwt (by decide) (blk8 hb).symm.symm), hbar, ⟨hlow.1, fun b hb => ?_⟩, fun n => Nat.le_succ_of_le (I.wle n), ?_, fun r hr => ?_⟩
            · rcases b' b hb with e | e
              · exact hlow.2 b e
              · have := a1.ext.size; omega
            · dsimp only
              rw [List.length_append]
              show _ + 1 ≤ _
              omega
            · rcases List.mem_append.1 hr with hr | hr
              · exact I.least r hr
              · have : r = ⟨p, q, z.w p + 1, z.w q⟩ := by simpa using hr
                subst this
                dsimp only
                omega
        · rw [decide_eq_false haf]
          simp (disch := omega)
          rw [← hoo]
          refine back_s I.S (by omega) fun g2 s2 f rk hf' hr' u2 S2 => ?_
          obtain ⟨m2, -, -⟩ := backC_mics (x := (z.c, z.p)) (n := (p : Int)) hf' hr'
          have O2 := m2.ord I.S.coh I.O
          have sp2 := m2.same.sp
          refine num_c ?_
          have next := hkk _ _ ⟨⟨z.i + 1, _, s2, _, z.w, z.l, z.lv⟩, rfl, rfl, I.upd u2 S2 (by omega) sp2 O2⟩
          by_cases h0 : (backC f (p : Int) (z.c, z.p)).2 = 0
          · by_cases hpq : p = q
            · rw [h0]
              simp (disch := omega) [hpq]
              refine flush_s S2 (by omega) fun g3 s3 f3 rk3 hf3 hr3 u3 S3 => ?_
              have m3 := (flushC_mics (x := (backC f (p : Int) (z.c, z.p)).1) hf3 hr3).1
              have O3 := m3.ord S2.coh O2
              exact hkk _ _ ⟨⟨z.i + 1, _, s3, _, z.w, z.l, z.lv⟩, rfl, rfl, I.upd (u2.trans u3) S3 (by omega) (m3.same.sp.trans sp2) O3⟩
            · rw [h0]
              simp (disch := omega) [hpq]
              exact next
          · simp (disch := omega) [h0]
            exact next
    · refine hG.elim fun z' hG => ?_
      have I' := hG.2.2
      have hi' := hG.2.1
      rw [hG.1]
      have cg3' := hcell_ext I'.fr.ext cx3
      simp (disch := omega) [cg3']
      have hfw := I'.few
      refine orderly_c I'.S I'.sp I'.O I'.lv (by omega) I'.wr I'.least ((hk.ext e0).ext I'.fr.ext) (by omega) fun g4 e4 => ?_
      simp (disch := omega)
      exact hX z' _ _ g4 rfl (by rw [hi']; simp) ⟨by omega, I'.ext e4⟩ (by omega)
  · have hie : z.i = xs.length := by omega
    simp (disch := omega) [cg1, hie]
    exact works _ (e0.trans I.fr.ext)
end Go.Proofs.YtcbbdnaelimpfaaGreat
namespace Go.Proofs.YtcbbdnaelimpfaaGreat.cacheOrder
open Go.ChangeShapes Go.WideShapes Go.ChangeAt Go.RowKit Go.Joins Go.Vc

theorem own : ownKnob Tryz.prog.godebug = none := by kernel_rfl
theorem laidOut : laidOutB Tryz.prog = true := by kernel_rfl

set_option maxRecDepth 100000 in
set_option maxHeartbeats 1000000 in
theorem lifted (os : Os) (started : os.Started) (H : Type) (enc : TypeId × Value → H) :
    ReturnsInHanded {} Tryz.checked os 4 .any (Rows.cacheOrderSpec.pre6 enc Tryz.prog Tryz.f4 Rows.cacheOrderRow.domain false) (Rows.cacheOrderSpec.post enc Tryz.prog Tryz.f4 false true false false) := by
  refine returnsInHanded_of_change (C := Tryz.checked) own started (by kernel_rfl) Tryz.func4
    (ChangeSpec.witness6 (enc := enc) (C := Tryz.checked) false ⟨#[], #[.agg #[.int .i64 0, .slice none 0 0, .slice none 0 0, .slice none 0 0]], []⟩ 8 (by kernel_rfl) (by kernel_rfl) (by kernel_rfl) (by kernel_rfl)) ?_
  intro W base args ds gs before hval0 hW hcnd _
  have hval : ∀ (j : Nat) t v, Tryz.f4.params[j]? = some t → args[j]? = some v → Value.okWide Tryz.prog W .any base t v := hval0
  have hW' := hW
  obtain ⟨p, q, hA0, hV, rfl, hfz, hnd⟩ := hW
  have hA : DataW.TrodAll enc Tryz.prog W 0 (fun _ => true) true Tryz.f4.params.toList args.toList ds p := hA0
  rw [Tryz.params4] at hA hval
  obtain ⟨v0, vs0, d0, ds0, p0, q0, hargs, rfl, rfl, h0, r0⟩ := trodAll_cons hA
  obtain ⟨rfl, rfl, rfl⟩ := trodAll_nil r0
  obtain rfl : args = #[v0] := by cases args; simp_all
  obtain ⟨room, u1, u2, u3, xs, fs, ks, rfl, hx, hf, hk⟩ := open_order (hval 0 51 v0 rfl rfl) h0
  refine ((CacheOrder_c (h := W.heap) hx hf hk (K := fun v h' => v = .bool true ∧ Ext W.heap h') (fun h' e => ⟨rfl, e⟩)).out W rfl).mono fun e W' ⟨v, he, hs, hv, hx⟩ => ?_
  exact ⟨v, he, hv ▸ law_post laidOut (by kernel_rfl) rfl (tb := 4) (by kernel_rfl) (by kernel_rfl) hW' (fun hg => by rw [hg]; rfl) (below_of hs hx)⟩

theorem proved : Rows.CacheOrderSaid :=
  OpenClaim.holds_of_wide 4 Tryz.f4 rfl rfl rfl rfl rfl rfl rfl ⟨rfl, rfl, rfl, rfl, rfl⟩ rfl rfl rfl rfl rfl (by kernel_rfl) Tryz.func4 (by kernel_rfl)
    (of_decide_eq_true (by kernel_rfl)) (by unfold Func.isWrapper; first | (rw [if_pos (by decide +kernel)]; kernel_rfl) | (rw [if_neg (by decide +kernel)]; exact ⟨rfl, rfl⟩))
    (fun os started H enc _ => lifted os started H enc)
end Go.Proofs.YtcbbdnaelimpfaaGreat.cacheOrder
