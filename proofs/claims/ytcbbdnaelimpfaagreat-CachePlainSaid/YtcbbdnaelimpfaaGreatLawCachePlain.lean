/- What is proved: the law palimpsestlaw14.CachePlain returns true for every input, and its arguments read as they did. No conditions. -/
import Derived.Test.YtcbbdnaelimpfaaGreatRows
import Derived.Test.YtcbbdnaelimpfaaGreatCacD
import Derived.Test.YtcbbdnaelimpfaaGreatOpen
import Derived.Test.YtcbbdnaelimpfaaGreatClose
set_option linter.unusedSimpArgs false
set_option linter.unusedVariables false
namespace Go.Proofs.YtcbbdnaelimpfaaGreat
open Go.Vc Go.Sort
variable {K : Value → Heap → Prop} {h : Heap}

structure Pz where
  i : Nat
  c : Ca
  s : St
  p : Ps
  L : List UInt8
structure PlI (h0 g : Heap) (o bits M sp W pb : Nat) (z : Pz) : Prop where
  S : Ses g o (2 * z.i) z.c z.s z.p
  fr : Fr h0 g o z.c z.s
  R : Pk z.c z.p bits M sp z.L
  own : OwnG bT 1 g (.slice (some ⟨pb, 0, none⟩) (12 * W) (12 * W)) (z.L.map byteV)
  np : ¬ Ft o z.c z.s pb
  npc : ∀ y ∈ z.s.F, ∀ q ∈ y.qs, ∀ b, blkV q.2 = some b → b ≠ pb
  hp : h0.size ≤ pb
theorem PlI.lt {h0 g : Heap} {o bits M sp W pb : Nat} {z : Pz} (I : PlI h0 g o bits M sp W pb z) (hW : 0 < W) : pb < g.size := I.own.lt (by
  obtain ⟨k, hk⟩ : ∃ k, 12 * W = k + 1 := ⟨12 * W - 1, by omega⟩
  rw [hk]; rfl)
theorem PlI.parts {h0 g gy G : Heap} {o bits M sp W pb : Nat} {z : Pz} {c' : Ca} {s' : St} (I : PlI h0 g o bits M sp W pb z) (hW : 0 < W) (e : Ext g gy) (u : CUpd gy G o z.c z.s c' s') : Fr h0 G o c' s' ∧ OwnG bT 1 G (.slice (some ⟨pb, 0, none⟩) (12 * W) (12 * W)) (z.L.map byteV) ∧ ¬ Ft o c' s' pb ∧ (∀ y ∈ s'.F, ∀ q ∈ y.qs, ∀ b, blkV q.2 = some b → b ≠ pb) := by
  have hl := I.lt hW
  have he := e.size
  refine ⟨(I.fr.go e).upd u, (I.own.ext e).mod u.mod (fun b hb hF => ?_), fun hF => (u.foot _ hF).elim I.np (fun x => by omega), fun y hy q hq b hb e2 => ?_⟩
  · have : b = pb := by
      obtain ⟨k, hk⟩ : ∃ k, 12 * W = k + 1 := ⟨12 * W - 1, by omega⟩
      rw [hk] at hb
      exact (Option.some.inj hb).symm
    rw [this] at hF; exact I.np hF
  · rcases u.pcs y hy q hq b hb with ⟨y1, h1, q1, h2, h3⟩ | h1
    · exact I.npc y1 h1 q1 h2 b h3 e2
    · omega
theorem PlI.step {h0 g gy G : Heap} {o bits M sp W pb : Nat} {z : Pz} {c' : Ca} {s' : St} {p' : Ps} {j : Nat} (I : PlI h0 g o bits M sp W pb z) (hW : 0 < W) (e : Ext g gy) (u : CUpd gy G o z.c z.s c' s') (S : Ses G o j c' s' p') (hj : j ≤ 2 * (z.i + 1)) (R : Pk c' p' bits M sp z.L) : PlI h0 G o bits M sp W pb ⟨z.i + 1, c', s', p', z.L⟩ := by
  obtain ⟨a1, a2, a3, a4⟩ := I.parts hW e u
  exact ⟨S.mono hj, a1, R, a2, a3, a4, I.hp⟩
def callsT : Nat := 24
set_option maxHeartbeats 16000000 in
theorem CachePlain_c {size bits room : Int} {v : Value} {xs : List Sc} (hx : Scs h v xs) (H : ∀ h', Ext h h' → K (.bool true) h') : CallsH Tryz.prog 3 #[.agg #[.int .i64 size, .int .i64 bits, .int .i64 room, v]] h K ⟨⟩ := by
  refine n3_calls ?_
  unfold n3
  obtain ⟨va, vc, rfl⟩ := hx.form
  have hlen := hx.len
  simp (disch := omega)
  refine (⟨_, rfl⟩ : ∃ G, G = h.push (.cells #[.int .i64 size, .int .i64 bits, .int .i64 room, .slice va xs.length vc] callsT)).elim fun h0 eh0 => ?_
  have e0 : Ext h h0 := by rw [eh0]; exact (by repeat' (first | (with_reducible exact Ext.refl _) | (with_reducible assumption) | (with_reducible refine push_ext ?_) | (with_reducible refine hset_ext ?_ ?_) | (with_reducible refine Ext.trans ?_ (by assumption)) | omega | (simp; done) | (simp; omega) | (refine Ext.size ?_) | (refine Nat.le_succ_of_le (Ext.size ?_))))
  have x0 : h0[h.size]? = some (.cells #[.int .i64 size, .int .i64 bits, .int .i64 room, .slice va xs.length vc] callsT) := by rw [eh0]; exact get_pushed rfl
  have z0 : h0.size = h.size + 1 := by rw [eh0]; simp
  rw [show h.push (.cells #[.int .i64 size, .int .i64 bits, .int .i64 room, .slice va xs.length vc] 24) = h0 from eh0.symm]
  clear eh0
  have hxl := get_some_lt x0
  have cx0 := cellOf (i := 0) x0 rfl
  have cx1 := cellOf (i := 1) x0 rfl
  have cx2 := cellOf (i := 2) x0 rfl
  have cx3 := cellOf (i := 3) x0 rfl
  refine fits_c (hx.ext e0) (fun h1 e1 fit => ?_) (fun h1 e1 => ?_)
  · obtain ⟨f0, f1, f2, f3, f4, f5, f6, f7⟩ := fit
    obtain ⟨sz, rfl⟩ := Int.eq_ofNat_of_zero_le f0
    obtain ⟨bi, rfl⟩ := Int.eq_ofNat_of_zero_le (show (0 : Int) ≤ bits by omega)
    obtain ⟨ro, rfl⟩ := Int.eq_ofNat_of_zero_le (show (0 : Int) ≤ room by omega)
    have cx0' := hcell_ext e1 cx0
    have cx1' := hcell_ext e1 cx1
    have cx2' := hcell_ext e1 cx2
    simp (disch := omega) [cx0', cx1', cx2']
    refine file_c (n := sz) (by omega) fas_nil (by decide) (fun h2 e2 hr => by cases hr) (fun h2 sp s e2 _ st ps fo qs => ?_)
    have cx1'' := hcell_ext e2 cx1'
    have cx2'' := hcell_ext e2 cx2'
    simp (disch := omega) [cx1'', cx2'']
    refine cNew_c (bits := bi) (room := ro) st ps rfl (by omega) (by omega) (by omega) (by omega) fun h3 o km pm wm e3 a3 ho fo3 => ?_
    have S0 := Ses.new a3 ps (by omega) (by omega)
    have X0 : Fr h0 h3 o (newC sp bi ro km pm wm) s := ⟨e1.trans (e2.trans e3), fun b hb => hb.elim (fun e => by have := fo3 b e; have := e1.size; have := e2.size; omega) (fun e => by have := fo b e; have := e1.size; omega)⟩
    have O0 : Okp ⟨some (fl0 sz), [], 2⟩ := ⟨⟨_, rfl⟩, rfl⟩
    have hsp : ptrV sp = .pointer (some ⟨sp, 0, none⟩) := rfl
    have hoo : ptrV o = .pointer (some ⟨o, 0, none⟩) := rfl
    have cx1''' := hcell_ext e3 cx1''
    simp (disch := omega) [hsp, hoo]
    refine num_c ?_
    obtain ⟨W, hW⟩ : ∃ W, 2 ^ bi = W := ⟨_, rfl⟩
    have hW0 : 512 ≤ W := by rw [← hW]; exact Nat.pow_le_pow_right (n := 2) (by decide) (show 9 ≤ bi by omega)
    have hW1 : W ≤ 4096 := by rw [← hW]; exact Nat.pow_le_pow_right (n := 2) (by decide) (show bi ≤ 12 by omega)
    have hs1 := fun (q : Bool) (tt : Nat) (o1 o2 : Go.Operand) (g : Heap) (K : Value → Heap → Prop) => Hp_shlW (P := Tryz.prog) (q := q) (t := tt) (x := o1) (y := o2) (k' := .i64) (K := K) (h := g) (a := 1) hW (by omega) (by omega) (by omega)
    have hmk := fun (g : Heap) (K : Value → Heap → Prop) (n : Int) (hn0 : 0 ≤ n) (hn1 : n ≤ 100000) => Hp_make (P := Tryz.prog) (h := g) (K := K) (t := 33) (e := bT) (s := 1) (by_ := 1) (n := n) (c := n) (z := .int .u8 0) (by kernel_rfl) (by kernel_rfl) rfl rfl hn0 (by omega) (by omega) (by omega)
    simp (disch := omega) [cx1''', hs1]
    refine (⟨_, rfl⟩ : ∃ G, G = h3.push (.cells ((zeros (12 * W)).map byteV).toArray bT)).elim fun h4 eh4 => ?_
    have e4 : Ext h3 h4 := by rw [eh4]; exact (by repeat' (first | (with_reducible exact Ext.refl _) | (with_reducible assumption) | (with_reducible refine push_ext ?_) | (with_reducible refine hset_ext ?_ ?_) | (with_reducible refine Ext.trans ?_ (by assumption)) | omega | (simp; done) | (simp; omega) | (refine Ext.size ?_) | (refine Nat.le_succ_of_le (Ext.size ?_))))
    have z4 : h4.size = h3.size + 1 := by rw [eh4]; simp
    have p4 : h4[h3.size]? = some (.cells ((zeros (12 * W)).map byteV).toArray bT) := by rw [eh4]; exact get_pushed rfl
    have hrep : Array.replicate (12 * (W : Int)).toNat (Value.int .u8 0) = ((zeros (12 * W)).map byteV).toArray := by
      unfold zeros
      rw [List.map_replicate, List.toArray_replicate, show (12 * (W : Int)).toNat = 12 * W by omega]; rfl
    rw [hrep, show h3.push (.cells ((zeros (12 * W)).map byteV).toArray 5) = h4 from eh4.symm]
    clear eh4 hrep
    have hcap : (12 * (W : Int)).toNat = 12 * W := by omega
    have own4 : OwnG bT 1 h4 (.slice (some ⟨h3.size, 0, none⟩) (12 * W) (12 * W)) ((zeros (12 * W)).map byteV) := by
      obtain ⟨k, hk⟩ : ∃ k, 12 * W = k + 1 := ⟨12 * W - 1, by omega⟩
      rw [hk] at p4 ⊢
      exact .inr ⟨h3.size, 0, k + 1, k, [], [], rfl, by rw [List.length_map, zeros_len]; omega, Nat.le_refl _, rfl, by simpa using p4, by simp [zeros_len]⟩
    have M0 : ∃ M, M = max (12 * 2 ^ bi) sz := ⟨_, rfl⟩
    obtain ⟨M, hM⟩ := M0
    have hM12 : 12 * 2 ^ bi ≤ M := by omega
    have P0 : PlI h0 h4 o bi M sp W h3.size ⟨0, newC sp bi ro km pm wm, s, ⟨some (fl0 sz), [], 2⟩, zeros (12 * W)⟩ := by
      refine ⟨S0.ext e4, X0.go e4, ⟨O0, rfl, rfl, (fun x hx => by cases hx), by rw [zeros_len, hW], fun n hn i hi => ?_, ?_⟩, own4, fun hF => by have := S0.at_.lt hF; omega, fun y hy q hq => ?_, by have := X0.ext.size; omega⟩
      · show bt (fillP ⟨some (fl0 sz), [], 2⟩ bi (n : Int)) i = bt (zeros (12 * W)) (n * 2 ^ bi + i)
        rw [fill_bt _ _ _ hi, bt_zeros]
        show bt (zeros sz) _ = 0
        rw [bt_zeros]
      · show (zeros sz).length ≤ M
        rw [zeros_len]; omega
      · exfalso
        obtain ⟨z, z1, z2, -, -⟩ := S0.ps.some_ rfl
        dsimp only at hy
        rw [z1] at hy
        have hyz : y = z := by simpa using hy
        have h2 := congrArg Fl.ps z2
        rw [hyz, List.map_eq_nil_iff.1 h2] at hq
        cases hq
    refine loopX1 (α := Pz) (fun z => .int .i64 z.i) (fun z g => z.i ≤ xs.length ∧ PlI h0 g o bi M sp W h3.size z) (fun z => xs.length - z.i) ⟨0, newC sp bi ro km pm wm, s, ⟨some (fl0 sz), [], 2⟩, zeros (12 * W)⟩ rfl ⟨Nat.zero_le _, P0⟩ ?_
    rintro z g ⟨hi, I⟩ X hX
    have cg0 := hcell_ext I.fr.ext cx0
    have cg3 := hcell_ext I.fr.ext cx3
    by_cases hil : z.i < xs.length
    · obtain ⟨ad, c', hv, k0, k1, k2, k3, k4, k5⟩ := ((hx.ext e0).ext I.fr.ext).cell hil
      injection hv with hv1 _ hv3
      subst hv1
      have hxo := ((hx.ext e0).ext I.fr.ext).ok xs[z.i] (List.getElem_mem hil)
      have hpg := f7 xs[z.i] (List.getElem_mem hil)
      obtain ⟨ba, bc, hbv⟩ := hxo.b.form
      have hbl := hxo.bl
      rw [hbv] at k5
      simp (disch := omega) [cg3, hil]
      refine JoinN.mk (JoinN.mk ?_)
      simp (disch := omega) [cg3, k0, k1, k2, k3, k4, k5]
      refine JoinN_in0 (fun G => ∃ z' : Pz, z'.i = z.i + 1 ∧ PlI h0 G o bi M sp W h3.size z') (fun kk hkk => ?_) (fun G hG => ?_)
      · generalize hgy : hset _ (⟨g.size, 5, none⟩ : Addr) _ = gy
        have ey : Ext g gy := by rw [← hgy]; exact put6_ext (by repeat' (first | (with_reducible exact Ext.refl _) | (with_reducible assumption) | (with_reducible refine push_ext ?_) | (with_reducible refine hset_ext ?_ ?_) | (with_reducible refine Ext.trans ?_ (by assumption)) | omega | (simp; done) | (simp; omega) | (refine Ext.size ?_) | (refine Nat.le_succ_of_le (Ext.size ?_)))) (Nat.le_refl _)
        have yy : gy[g.size]? = some (.cells #[.int .i64 xs[z.i].kind, .int .i64 xs[z.i].at_, .int .i64 xs[z.i].n, .int .i64 xs[z.i].page, .int .i64 xs[z.i].other, .slice ba xs[z.i].b.length bc] 35) := by rw [← hgy]; exact put6 (get_pushed rfl)
        clear hgy
        have zy := ey.size
        have y0 := cellOf (i := 0) yy rfl
        have y1 := cellOf (i := 1) yy rfl
        have y2 := cellOf (i := 2) yy rfl
        have y3 := cellOf (i := 3) yy rfl
        have y4 := cellOf (i := 4) yy rfl
        have y5 := cellOf (i := 5) yy rfl
        have Sy := I.S.ext ey
        have hxk := hxo.kind
        have hxa := hxo.at_
        have hxn := hxo.n
        have hxpg := hxo.page
        have hxot := hxo.other
        unfold i64 at hxk hxa hxn hxpg hxot
        have bB := hxo.b.ext ey
        rw [hbv] at bB
        have bB0 := (hx.ok xs[z.i] (List.getElem_mem hil)).b
        rw [hbv] at bB0
        generalize xs[z.i] = x at *
        have r1 := I.S.at_.co.ok.r0
        have hbc : z.c.bits = bi := I.R.bi
        have Iy : PlI h0 gy o bi M sp W h3.size z := ⟨Sy, I.fr.go ey, I.R, I.own.ext ey, I.np, I.npc, I.hp⟩
        have stay : PlI h0 gy o bi M sp W h3.size { z with i := z.i + 1 } := ⟨Sy.mono (by dsimp only; omega), I.fr.go ey, I.R, I.own.ext ey, I.np, I.npc, I.hp⟩
        by_cases hk : x.kind.tmod 4 = 0
        · simp (disch := omega) [y0, y1, y2, y3, hk]
          refine read_s Sy (by omega) hxa.1 hxa.2 hxn.1 hxn.2 (fun hne => ?_) (fun h5 s5 f rk hf hr hu hne u5 S5 => ?_) (fun h5 s5 f rk pb bb gg v5 hf hr hu hok hgg u5 S5 ov fv => ?_)
          · simp (disch := omega)
            refine num_c ?_
            simp (disch := omega)
            exact hkk _ ⟨_, rfl, stay⟩
          · exact absurd (useP_okp (x := (z.c, z.p)) hf hr r1 I.R.O).1 hne
          · obtain ⟨ra, rn, rs, rk'⟩ := useE_ok hu
            obtain ⟨p0, p1⟩ := ask_ok (by rw [hbc]; omega) rk'
            rw [hbc, hW] at p1 rs
            obtain ⟨A, hA⟩ := Int.eq_ofNat_of_zero_le ra
            obtain ⟨B, hB⟩ := Int.eq_ofNat_of_zero_le rn
            obtain ⟨n, hn⟩ := Int.eq_ofNat_of_zero_le p0
            have hn12 : n < 12 := by omega
            have hfit := pg_fit (W := W) hn12
            obtain ⟨fr, hfr⟩ : ∃ fr, fr = n * W + A := ⟨_, rfl⟩
            have hmulI : x.page * (W : Int) = ((n * W : Nat) : Int) := by rw [hn]; exact (Int.natCast_mul n W).symm
            have hw : x.page * (W : Int) + x.at_ = ((fr : Nat) : Int) := by rw [hmulI, hA, hfr]; exact (Int.natCast_add _ _).symm
            have hsx : ((fr : Int) + (B : Int)).toNat = fr + B := by omega
            have R5 := I.R.use I.S.coh I.S.wf.inv hM12 r1 hf hr p0 (by omega) (by rw [hbc, hW]; exact p1) hok
            have J5 := Iy.step (by omega) (.refl _) u5 S5 (by omega) R5
            have own5 := J5.own
            have hL5 := R5.len
            rw [hW] at hL5
            have hDl : gg.D.length = W := by rw [S5.coh.len gg (get_mem hgg).1, R5.bi, hW]
            have hvw : ∀ i, i < W → bt gg.D i = bt z.L (n * W + i) := fun i hi => by
              have h1 := R5.vw n hn12 i (by rw [hW]; exact hi)
              unfold view at h1
              rw [← hn] at h1
              dsimp only at h1
              rw [hgg, hW] at h1
              exact h1
            have hbs : (gg.D.drop x.at_.toNat).take x.n.toNat = (z.L.take (fr + B)).drop fr := by
              have e1 : x.at_.toNat = A := by omega
              have e2 : x.n.toNat = B := by omega
              rw [e1, e2]
              refine bt_ext (by simp only [List.length_take, List.length_drop]; omega) fun i hi => ?_
              simp only [List.length_take, List.length_drop] at hi
              rw [bt_take, bt_drop, bt_drop, bt_take, if_pos (by omega), if_pos (by omega), hvw _ (by omega)]
              congr 1; omega
            rw [hbs] at ov
            have hsl : ((z.L.take (fr + B)).drop fr).length = B := by simp only [List.length_take, List.length_drop]; omega
            have bP : Bytes h5 (.slice (some (sub ⟨h3.size, 0, none⟩ fr (12 * W))) B (12 * W - fr)) ((z.L.take (fr + B)).drop fr) := by
              refine .inr ⟨_, _, by rw [hsl], by omega, ?_⟩
              rcases own5.bytes with ⟨h1, h2⟩ | ⟨a, c, h1, h2, h3⟩
              · rw [h2] at hL5; simp at hL5; omega
              · injection h1 with h11 h12 h13
                have h11' := Option.some.inj h11
                rw [h11']
                exact h3.part fr (fr + B) (12 * W) (by omega) (by omega) (by omega)
            have bV := ov.bytes
            obtain ⟨xa, xn, xc, rfl, hxn', -, -⟩ := ov.form
            obtain rfl : xn = B := by rw [List.length_map, hsl] at hxn'; omega
            generalize (z.L.take (fr + xn)).drop fr = T at *
            have k5 := (u5.mod.block _ (get_some_lt yy) (fun hF => by have := I.S.at_.lt hF; omega)).trans yy
            have w2 := cellOf (i := 2) k5 rfl
            have cv1 : ∀ (q : Bool) (K0 : Value → Heap → Prop), Hp Tryz.prog q (convert 33 9 (.slice xa xn xc)) K0 h5 ⟨⟩ ↔ K0 (str T) h5 := fun q K0 => Hp_bytesStr (e := 5) (by kernel_rfl) (by kernel_rfl) (by kernel_rfl) bV
            have cv2 : ∀ (q : Bool) (K0 : Value → Heap → Prop), Hp Tryz.prog q (convert 33 9 (.slice (some (sub ⟨h3.size, 0, none⟩ fr (12 * W))) xn (12 * W - fr))) K0 h5 ⟨⟩ ↔ K0 (str T) h5 := fun q K0 => Hp_bytesStr (e := 5) (by kernel_rfl) (by kernel_rfl) (by kernel_rfl) bP
            simp (disch := omega)
            refine num_c ?_
            simp (disch := omega) [w2, hcap, hw, hB, hsx, cv1, cv2]
            exact hkk _ ⟨_, rfl, J5⟩
        · simp (disch := omega) [y0, hk]
          refine JoinN_in1 (fun v G => G = gy ∧ v = .bool (decide (x.kind.tmod 4 = 1 ∨ x.kind.tmod 4 = 2))) (fun k1 hk1 => ?_) (fun v G hG => ?_)
          · by_cases h1 : x.kind.tmod 4 = 1
            · simp (disch := omega) [h1]
              exact hk1 _ _ ⟨rfl, by simp [h1]⟩
            · by_cases h2 : x.kind.tmod 4 = 2
              · simp (disch := omega) [h1, h2]
                exact hk1 _ _ ⟨rfl, by simp [h1, h2]⟩
              · simp (disch := omega) [h1, h2]
                exact hk1 _ _ ⟨rfl, by simp [h1, h2]⟩
          rw [hG.1, hG.2]
          by_cases hwr : x.kind.tmod 4 = 1 ∨ x.kind.tmod 4 = 2
          · rw [decide_eq_true hwr]
            simp (disch := omega) [y1, y3, y5]
            refine write_x Sy (by omega) hxa.1 hxa.2 bB hbl (fun d hne hd _ hF => ?_) (fun hne => ?_) (fun h5 s5 f rk hf hr hu hne u5 S5 => ?_) (fun h5 s5 f rk pb bb gg hf hr hu hok hgg u5 S5 => ?_)
            · have h1 := bB0.lt hd hne
              have h2 := I.fr.fr _ hF
              omega
            · refine num_c ?_
              simp (disch := omega)
              exact hkk _ ⟨_, rfl, stay⟩
            · exact absurd (useP_okp (x := (z.c, z.p)) hf hr r1 I.R.O).1 hne
            · refine num_c ?_
              obtain ⟨ra, rn, rs, rk'⟩ := useE_ok hu
              obtain ⟨p0, p1⟩ := ask_ok (by rw [hbc]; omega) rk'
              rw [hbc, hW] at p1 rs
              obtain ⟨A, hA⟩ := Int.eq_ofNat_of_zero_le ra
              obtain ⟨n, hn⟩ := Int.eq_ofNat_of_zero_le p0
              have hn12 : n < 12 := by omega
              have hfit := pg_fit (W := W) hn12
              obtain ⟨fr, hfr⟩ : ∃ fr, fr = n * W + A := ⟨_, rfl⟩
              have hmulI : x.page * (W : Int) = ((n * W : Nat) : Int) := by rw [hn]; exact (Int.natCast_mul n W).symm
              have hw : x.page * (W : Int) + x.at_ = ((fr : Nat) : Int) := by rw [hmulI, hA, hfr]; exact (Int.natCast_add _ _).symm
              have R5 := I.R.use I.S.coh I.S.wf.inv hM12 r1 hf hr p0 (by omega) (by rw [hbc, hW]; exact p1) hok
              have ch := (useP_coh (x := (z.c, z.p)) hf hr I.S.coh I.S.wf.inv ⟨p0, by dsimp only; rw [hbc, hW]; exact p1⟩ (n := x.page) (pb := pb) (bb := bb)).1
              have R6 := R5.wrote ch (n := n) (k := A) (b := x.b) (by rw [← hn]; exact hgg) hn12 (by rw [hW]; omega)
              have e1 : x.at_.toNat = A := by omega
              rw [e1, hn] at u5 S5
              rw [← hn] at R6
              rw [← hn] at u5 S5
              rw [hW, ← hfr] at R6
              obtain ⟨a1, a2, a3, a4⟩ := I.parts (by omega) ey u5
              generalize (useP f x.page pb bb (z.c, z.p)).1.1.wrote x.page A x.b = c6 at *
              generalize (useP f x.page pb bb (z.c, z.p)).1.2 = p6 at *
              have hB5 : Bytes h5 (.slice ba x.b.length bc) x.b := bB.modX u5.mod (fun d hne hd _ hF => by
                have h1 := bB0.lt hd hne
                have h2 := I.fr.fr _ hF
                omega)
              have k5 := (u5.mod.block _ (get_some_lt yy) (fun hF => by have := I.S.at_.lt hF; omega)).trans yy
              have w5 := cellOf (i := 5) k5 rfl
              simp (disch := omega) [hcap, hw, w5]
              have hLl := I.R.len
              rw [hW] at hLl
              refine Hp_copyG (e := bT) (lo := fr) (m := 12 * W - fr) (by kernel_rfl) a2 (by omega) hB5 fun h6 o6 m6 => ?_
              have htk : x.b.take (12 * W - fr) = x.b := List.take_of_length_le (by omega)
              rw [htk] at o6
              have hbk : ∀ b, blkG (.slice (some ⟨h3.size, 0, none⟩) (12 * W) (12 * W)) = some b → b = h3.size := fun b hb => by
                obtain ⟨k, hk⟩ : ∃ k, 12 * W = k + 1 := ⟨12 * W - 1, by omega⟩
                rw [hk] at hb
                exact (Option.some.inj hb).symm
              have m6' : Mod (· = h3.size) h5 h6 := m6.mono (fun b _ e => hbk b e)
              have at6 := S5.at_.mod m6' (fun b hb e => a3 (e ▸ hb)) (fun y hy q hq b hb => a4 y hy q hq b hb)
              have S6 : Ses h6 o (2 * z.i + 1) c6 s5 p6 := ⟨at6, S5.ps, S5.wf, S5.coh, S5.bud, S5.clk⟩
              have F6 : Fr h0 h6 o c6 s5 := ⟨m6'.ext_from a1.ext (fun b hb e => by have e' : b = h3.size := e; have := I.hp; omega), a1.fr⟩
              exact hkk _ ⟨⟨z.i + 1, c6, s5, p6, _⟩, rfl, S6.mono (by dsimp only; omega), F6, R6, o6, a3, a4, I.hp⟩
          · rw [decide_eq_false hwr]
            simp (disch := omega) [y3, y4]
            have back : ∀ (G : Heap) (c1 : Ca), Ses G o (2 * z.i + 1) c1 z.s z.p → CUpd gy G o z.c z.s c1 z.s → Pk c1 z.p bi M sp z.L → CallsH Tryz.prog 15 #[ptrV o, .int .i64 x.page] G (fun _ h6 => kk h6) ⟨⟩ := fun G c1 S1 u1 R1 => by
              refine back_s S1 (by omega) fun h6 s6 f rk hf hr u6 S6 => ?_
              obtain ⟨m6, -, -⟩ := backC_mics (x := (c1, z.p)) (n := x.page) hf hr
              exact hkk _ ⟨⟨z.i + 1, _, s6, _, z.L⟩, rfl, Iy.step (by omega) (.refl _) (u1.trans u6) S6 (by omega) (R1.mics S1.coh hM12 m6)⟩
            have fld : ∀ (G : Heap), Ext gy G → hcell G ⟨g.size, 3, none⟩ = some (.int .i64 x.page) := fun G e => hcell_ext e y3
            refine after_s Sy (by omega) (fun e => ?_) (fun g2 _ _ hR e2 => ?_) (fun g2 _ _ _ hno e2 => ?_) (fun g2 c2 _ _ hnR hopq u2 W2 S2 => ?_)
            · simp (disch := omega) [y3]
              exact back gy z.c (Sy.mono (by omega)) (.refl Sy.at_) I.R
            · simp (disch := omega) [fld g2 e2]
              exact back g2 z.c ((Sy.ext e2).mono (by omega)) ((CUpd.refl Sy.at_).ext e2) I.R
            · simp (disch := omega) [fld g2 e2]
              exact back g2 z.c ((Sy.ext e2).mono (by omega)) ((CUpd.refl Sy.at_).ext e2) I.R
            · have y2' := (u2.mod.block _ (get_some_lt yy) (fun hF => by have := I.S.at_.lt hF; omega)).trans yy
              have w3 := cellOf (i := 3) y2' rfl
              simp (disch := omega) [w3]
              refine back g2 c2 S2 u2 ?_
              have hw2 := W2.same
              generalize c2.W = w at hw2
              rw [hw2]
              exact ⟨I.R.O, I.R.hs, I.R.bi, I.R.pg, I.R.len, I.R.vw, I.R.fl⟩
      · refine hG.elim fun z' hG => ?_
        have hi' := hG.1
        simp (disch := omega)
        exact hX z' _ G (by rw [hi']; simp) ⟨by omega, hG.2⟩ (by omega)
    · have hie : z.i = xs.length := by omega
      simp (disch := omega) [cg3, hie]
      have hL := I.R.len
      rw [hW] at hL
      refine flush_s I.S (by omega) fun h5 s5 f rk hf hr u5 S5 => ?_
      obtain ⟨q0, q1, q2, fl, q3, q4, q5⟩ := I.R.flush I.S.coh hM12 hf hr
      have hsp5 : (flushC f (z.c, z.p)).1.1.sp = sp := (flushC_mics (x := (z.c, z.p)) hf hr).1.same.sp.trans I.R.hs
      obtain ⟨a1, a2, a3, a4⟩ := I.parts (by omega) (.refl _) u5
      rw [q0]
      refine num_c ?_
      have st5 : StAt h5 sp s5 := by have := S5.at_.st; rw [hsp5] at this; exact this
      have ps5 := S5.ps
      generalize (flushC f (z.c, z.p)).1.2 = p5 at *
      obtain ⟨xf, xf1, xf2, xf3, xf4⟩ := ps5.some_ q3
      have pend0 : s5.pend = 0 := by unfold St.pend; rw [xf1]; simp [xf2, q4]
      have hnow : nowP p5 = fl.now := by unfold nowP; rw [q3]
      have hlenP : lenP p5 = fl.last.length := by unfold lenP; rw [q3]
      have hnl : fl.now.length = fl.last.length := (q5 fl q3).now_len
      have hM2 : M ≤ 50000 := by rw [hW] at hM; omega
      simp (disch := omega)
      refine Pending_c st5 fun h6 e6 => ?_
      rw [pend0]
      simp (disch := omega)
      rw [show str [102] = str fN from rfl]
      have st6 := st5.ext e6
      refine Size_c st6 (by decide) (fun h7 e7 hne => ?_) (fun h7 x7 e7 hx7 hn7 => ?_)
      · exact absurd (by rw [fErr_ok ps5, q3]; rfl) hne
      obtain ⟨g1, g2, g3⟩ := ps_size ps5 q3 hx7
      rw [g2]
      simp (disch := omega)
      refine Read_c (st6.ext e7) (by decide) (by decide) (by decide) (by omega) (by omega) (fun h8 e8 hne => ?_) (fun h8 x8 v8 e8 hx8 hgx _ _ _ ov fv _ => ?_)
      · exfalso
        apply hne
        unfold rdErr
        rw [if_pos okN_f, g3]
        dsimp only
        rw [if_neg (by omega)]
      obtain ⟨k1, k2, k3⟩ := ps_size ps5 q3 hx8
      rw [k1, show ((0 : Int)).toNat = 0 from rfl, Int.toNat_natCast, List.drop_zero, List.take_of_length_le (by omega)] at ov
      simp (disch := omega)
      refine num_c ?_
      simp (disch := omega)
      refine num_c ?_
      have e58 : Ext h5 h8 := e6.trans (e7.trans e8)
      have cz0 := hcell_ext (a1.ext.trans e58) cx0
      have own8 := a2.ext e58
      have hcpe : 12 * W = z.L.length := hL.symm
      simp (disch := omega) [hcap, cz0]
      refine grown_c (N := sz) (l := z.L) hcpe (by omega) own8 (by omega) (by omega) (by omega) (by omega) fun h9 v9 m9 o9 b9 => ?_
      have e9 : Ext h8 h9 := m9.ext_from (.refl _) (fun b hb e => absurd e.2 (by omega))
      obtain ⟨ua, un, uc, rfl, hun, huc, -⟩ := o9.form
      have hun' : un = max z.L.length sz := by rw [List.length_map, growL_len] at hun; omega
      subst hun'
      rw [hW] at hM
      simp (disch := omega)
      obtain ⟨ba, bn, bc, rfl, hbn, hbc, -⟩ := ov.form
      have hbn' : bn = fl.now.length := by rw [List.length_map] at hbn; omega
      have hfb : ∀ b, blkG (.slice ba bn bc) = some b → h7.size ≤ b := fv
      refine grown_c (N := 12 * W) (l := fl.now) hbn' (by omega) (ov.ext e9) (by omega) (by omega) (by omega) (by omega) fun h10 v10 m10 o10 b10 => ?_
      have z8 := e8.size
      have z9 := e9.size
      have a1z := a1.ext.size
      have z58 := e58.size
      have e7x : Ext h7 h10 := m10.ext_from (e8.trans e9) (fun b hb e => by have := hfb b e.1; omega)
      have own10 := own8.ext (.refl _)
      have hgl : (growL fl.now (12 * W)).length = max fl.now.length (12 * W) := growL_len _ _
      obtain ⟨ca, cn, cc, rfl, hcn, hcc, hcne⟩ := o10.form
      have hcn' : cn = max fl.now.length (12 * W) := by rw [List.length_map, hgl] at hcn; omega
      have htk : (growL fl.now (12 * W)).take (12 * W) = z.L := by
        refine bt_ext (by rw [List.length_take, hgl]; omega) fun i hi => ?_
        rw [List.length_take, hgl] at hi
        rw [bt_take, if_pos (by omega), bt_grow, ← hnow]
        exact q2 i (by rw [hW]; omega)
      have oP : OwnG bT 1 h10 (.slice (some ⟨h3.size, 0, none⟩) (12 * W) (12 * W)) (z.L.map byteV) := (a2.ext (e6.trans e7)).ext e7x
      have o12 := o10.cut (hi := 12 * W) (mx := cc) (by omega) (Nat.le_refl _) (by omega)
      rw [Nat.mul_one, ← List.map_take, htk] at o12
      have cv1 : ∀ (q : Bool) (K0 : Value → Heap → Prop), Hp Tryz.prog q (convert 33 9 (.slice (some ⟨h3.size, 0, none⟩) (12 * W) (12 * W))) K0 h10 ⟨⟩ ↔ K0 (str z.L) h10 := fun q K0 => Hp_bytesStr (e := 5) (by kernel_rfl) (by kernel_rfl) (by kernel_rfl) oP.bytes
      have cv2 : ∀ (q : Bool) (K0 : Value → Heap → Prop), Hp Tryz.prog q (convert 33 9 (.slice ca (12 * W) cc)) K0 h10 ⟨⟩ ↔ K0 (str z.L) h10 := fun q K0 => Hp_bytesStr (e := 5) (by kernel_rfl) (by kernel_rfl) (by kernel_rfl) o12.bytes
      obtain ⟨cb, co, rfl⟩ := hcne (by intro e; have := congrArg List.length e; rw [List.length_map, hgl] at this; simp at this; omega)
      simp (disch := omega) [hcap, cv1, cv2]
      refine works_c fun h11 e11 => ?_
      simp (disch := omega)
      exact H _ (((e0.trans a1.ext).trans (e6.trans e7)).trans (e7x.trans e11))
  · simp (disch := omega)
    refine works_c fun h2 e2 => ?_
    exact H _ (e0.trans (e1.trans e2))
end Go.Proofs.YtcbbdnaelimpfaaGreat
namespace Go.Proofs.YtcbbdnaelimpfaaGreat.cachePlain
open Go.ChangeShapes Go.WideShapes Go.ChangeAt Go.RowKit Go.Joins Go.Vc

theorem own : ownKnob Tryz.prog.godebug = none := by kernel_rfl
theorem laidOut : laidOutB Tryz.prog = true := by kernel_rfl

set_option maxRecDepth 100000 in
set_option maxHeartbeats 1000000 in
theorem lifted (os : Os) (started : os.Started) (H : Type) (enc : TypeId × Value → H) :
    ReturnsInHanded {} Tryz.checked os 3 .any (Rows.cachePlainSpec.pre6 enc Tryz.prog Tryz.f3 Rows.cachePlainRow.domain false) (Rows.cachePlainSpec.post enc Tryz.prog Tryz.f3 false true false false) := by
  refine returnsInHanded_of_change (C := Tryz.checked) own started (by kernel_rfl) Tryz.func3
    (ChangeSpec.witness6 (enc := enc) (C := Tryz.checked) false ⟨#[], #[.agg #[.int .i64 0, .int .i64 0, .int .i64 0, .slice none 0 0]], []⟩ 8 (by kernel_rfl) (by kernel_rfl) (by kernel_rfl) (by kernel_rfl)) ?_
  intro W base args ds gs before hval0 hW hcnd _
  have hval : ∀ (j : Nat) t v, Tryz.f3.params[j]? = some t → args[j]? = some v → Value.okWide Tryz.prog W .any base t v := hval0
  have hW' := hW
  obtain ⟨p, q, hA0, hV, rfl, hfz, hnd⟩ := hW
  have hA : DataW.TrodAll enc Tryz.prog W 0 (fun _ => true) true Tryz.f3.params.toList args.toList ds p := hA0
  rw [Tryz.params3] at hA hval
  obtain ⟨v0, vs0, d0, ds0, p0, q0, hargs, rfl, rfl, h0, r0⟩ := trodAll_cons hA
  obtain ⟨rfl, rfl, rfl⟩ := trodAll_nil r0
  obtain rfl : args = #[v0] := by cases args; simp_all
  obtain ⟨size, bits, room, u, xs, rfl, hx⟩ := open_calls (hval 0 24 v0 rfl rfl) h0
  refine ((CachePlain_c (h := W.heap) hx (K := fun v h' => v = .bool true ∧ Ext W.heap h') (fun h' e => ⟨rfl, e⟩)).out W rfl).mono fun e W' ⟨v, he, hs, hv, hx⟩ => ?_
  exact ⟨v, he, hv ▸ law_post laidOut (by kernel_rfl) rfl (tb := 4) (by kernel_rfl) (by kernel_rfl) hW' (fun hg => by rw [hg]; rfl) (below_of hs hx)⟩

theorem proved : Rows.CachePlainSaid :=
  OpenClaim.holds_of_wide 3 Tryz.f3 rfl rfl rfl rfl rfl rfl rfl ⟨rfl, rfl, rfl, rfl, rfl⟩ rfl rfl rfl rfl rfl (by kernel_rfl) Tryz.func3 (by kernel_rfl)
    (of_decide_eq_true (by kernel_rfl)) (by unfold Func.isWrapper; first | (rw [if_pos (by decide +kernel)]; kernel_rfl) | (rw [if_neg (by decide +kernel)]; exact ⟨rfl, rfl⟩))
    (fun os started H enc _ => lifted os started H enc)
end Go.Proofs.YtcbbdnaelimpfaaGreat.cachePlain
