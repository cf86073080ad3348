/- What is proved: the law palimpsestlaw25.ModelDirty returns true for every input, and its arguments read as they did. No conditions. -/
import Derived.Test.YtoonjlhfgjnnmaaGreatRows
import Derived.Test.YtoonjlhfgjnnmaaGreatMdlE
set_option linter.unusedSimpArgs false
set_option linter.unusedVariables false
namespace Go.Proofs.YtoonjlhfgjnnmaaGreat
open Go.Vc
variable {K : Value → Heap → Prop} {h : Heap}

theorem in_c {v : Value} {L : List Int} {x : Int} (o : OwnT i6T 1 h v (L.map (.int .i64))) (hL : L.length < 1000000) (H : K (.bool (decide (x ∈ L))) h) : CallsH Tryz.prog 15 #[v, .int .i64 x] h K ⟨⟩ := by
  refine n15_calls ?_
  unfold n15
  obtain ⟨a, n, c, rfl, hn, hc, hb⟩ := o.form (by omega)
  rw [List.length_map, Nat.mul_one] at hn
  subst hn
  refine loopX1 (α := Nat) (fun i => .int .i64 i) (fun i g => i ≤ L.length ∧ g = h ∧ ∀ j (hj : j < L.length), j < i → L[j] ≠ x) (fun i => L.length - i) 0 rfl ⟨by omega, rfl, fun j _ hj => by omega⟩ ?_
  rintro i g ⟨hi, rfl, hno⟩ X hX
  by_cases hin : i < L.length
  · obtain ⟨b, rfl⟩ := hb (by intro e; have := congrArg List.length e; simp at this; rw [this] at hin; simp at hin)
    have hel := (o.elt (i := i) (by simpa using hin)).1
    rw [List.getElem_map] at hel
    by_cases e : L[i] = x
    · simp (disch := omega) [hel, e]
      rw [decide_eq_true (by rw [← e]; exact List.getElem_mem hin)] at H
      exact H
    · simp (disch := omega) [hel, e]
      refine hX (i + 1) _ _ (by simp) ⟨by omega, rfl, fun j hj hji => ?_⟩ (by omega)
      by_cases e2 : j = i
      · subst e2; exact e
      · exact hno j hj (by omega)
  · obtain rfl : i = L.length := by omega
    simp (disch := omega)
    rw [decide_eq_false (fun hm => by obtain ⟨j, hj, e⟩ := List.getElem_of_mem hm; exact hno j hj hj e)] at H
    exact H
/-- The law's state: what has changed stands in the bitmap. -/
structure DS (h0 g : Heap) (w wm : Nat) (t m b : Im) (s : Sn) (y : Bm) (gran W : Nat) (c0 cm : Nat → List UInt8) : Prop where
  at_ : WdAt g w wm [t, m, b]
  low : Low m b
  up : Up t
  S : t.S = [s]
  B : t.B = [y]
  sn : s.n = 20
  snm : s.nm = [115]
  en : y.en = true
  gr : y.gran = gran
  rng : ∀ p ∈ y.D, 0 ≤ p.1 ∧ p.1 * (W : Int) < 10240
  chg : ∀ k, k < 20 → conts [t, m, b] nTop k ≠ c0 k → look2 ((k * 512 / W : Nat) : Int) y.D = some (.bool true)
  mid : ∀ k, conts [t, m, b] nMid k = cm k
  fr : ∀ z ∈ [t, m, b], ∀ c, footI z c → h0.size ≤ c
theorem DS.ext {h0 g g' : Heap} {w wm : Nat} {t m b : Im} {s : Sn} {y : Bm} {gran W : Nat} {c0 cm : Nat → List UInt8} (a : DS h0 g w wm t m b s y gran W c0 cm) (e : Ext g g') : DS h0 g' w wm t m b s y gran W c0 cm :=
  ⟨a.at_.ext e, a.low, a.up, a.S, a.B, a.sn, a.snm, a.en, a.gr, a.rng, a.chg, a.mid, a.fr⟩
theorem DS.nd {h0 g : Heap} {w wm : Nat} {t m b : Im} {s : Sn} {y : Bm} {gran W : Nat} {c0 cm : Nat → List UInt8} (a : DS h0 g w wm t m b s y gran W c0 cm) : (y.D.map (·.1)).Nodup :=
  ((a.at_.im t (by simp)).bmd y (by rw [a.B]; simp)).nodup
theorem few_keys {D : List (Int × Value)} {W : Nat} (hn : (D.map (·.1)).Nodup) (hW : 512 ≤ W) (hr : ∀ p ∈ D, 0 ≤ p.1 ∧ p.1 * (W : Int) < 10240) : D.length ≤ 20 := by
  have h1 : ((D.map (·.1)).map Int.toNat).Nodup := by
    refine List.Pairwise.map _ (fun a b hab => hab) ?_
    refine hn.imp_of_mem ?_
    intro a b ha hb hab e
    obtain ⟨p, hp, rfl⟩ := List.mem_map.1 ha
    obtain ⟨q, hq, rfl⟩ := List.mem_map.1 hb
    have := (hr p hp).1
    have := (hr q hq).1
    exact hab (by omega)
  have h2 := nodup_len (n := 20) h1 (fun i hi => by
    obtain ⟨x, hx, rfl⟩ := List.mem_map.1 hi
    obtain ⟨p, hp, rfl⟩ := List.mem_map.1 hx
    obtain ⟨h3, h4⟩ := hr p hp
    obtain ⟨n, hn⟩ := Int.eq_ofNat_of_zero_le h3
    rw [hn] at h4 ⊢
    have h5 : (n : Int) * 512 ≤ (n : Int) * (W : Int) := Int.mul_le_mul_of_nonneg_left (by omega) (by omega)
    simp only [Int.toNat_natCast]
    omega)
  simpa using h2
/-- Touched sectors have their granules in it. -/
theorem gran_in {W p m k : Nat} {D D' : List (Int × Value)} (g : granT W p m D D') (hk : p ≤ k ∧ k < p + m) : look2 ((k * 512 / W : Nat) : Int) D' = some (.bool true) := by
  rw [g, if_pos ⟨by omega, Int.ofNat_le.2 (Nat.div_le_div_right (by omega)), Int.ofNat_le.2 (Nat.div_le_div_right (by omega))⟩]
theorem gran_keep {W p m : Nat} {D D' : List (Int × Value)} {q : Int} (g : granT W p m D D') (h : look2 q D = some (.bool true)) : look2 q D' = some (.bool true) := by
  rw [g]
  split
  · rfl
  · exact h
theorem gran_rng {W p m : Nat} {D D' : List (Int × Value)} (g : granT W p m D D') (hn : (D'.map (·.1)).Nodup) (hd : (D.map (·.1)).Nodup) (hW : 0 < W) (hp : p + m ≤ 20) (hr : ∀ q ∈ D, 0 ≤ q.1 ∧ q.1 * (W : Int) < 10240) : ∀ q ∈ D', 0 ≤ q.1 ∧ q.1 * (W : Int) < 10240 := fun q hq => by
  have h1 := (look2_some hn).2 hq
  rw [g] at h1
  split at h1
  · rename_i hc
    obtain ⟨c1, c2, c3⟩ := hc
    have h0 : (0 : Int) ≤ ((p * 512 / W : Nat) : Int) := Int.natCast_nonneg _
    obtain ⟨n, hn⟩ := Int.eq_ofNat_of_zero_le (show 0 ≤ q.1 by omega)
    rw [hn] at c3 ⊢
    have h2 : n ≤ ((p + m) * 512 - 1) / W := Int.ofNat_le.1 c3
    have h3 := (Nat.le_div_iff_mul_le hW).1 h2
    refine ⟨by omega, ?_⟩
    rw [← Int.natCast_mul]
    omega
  · exact hr q ((look2_some hd).1 h1)
theorem up_same {t t' : Im} (u : Up t) (e1 : t'.nm = t.nm) (e2 : t'.bk = t.bk) (e3 : t'.n = t.n) (e4 : t'.cs = t.cs) (e5 : t'.bits = t.bits) : Up t' := ⟨e1.trans u.nm, e2.trans u.bk, e3.trans u.n, e4.trans u.cs, e5.trans u.bits⟩
/-- A write, and what it dirties. -/
theorem DS.wrote {h0 g g' : Heap} {w wm : Nat} {t t' m b : Im} {s : Sn} {y : Bm} {gran W p q : Nat} {c0 cm : Nat → List UInt8} {l : List UInt8} {D' : List (Int × Value)} (a : DS h0 g w wm t m b s y gran W c0 cm) (hW : 0 < W) (hl : Wrote [t, m, b] t t' p q l) (hp : p + q ≤ 20) (hg : granT W p q y.D D')
    (a' : WdAt g' w wm (setI (t'.dirt y D') [t, m, b])) : DS h0 g' w wm (t'.dirt y D') m b s { y with D := D' } gran W c0 cm := by
  obtain ⟨F, G, ht'⟩ := hl.same
  have hf := hl.facts a.at_.wl (by rw [a.up.nm]; exact fTop a.up)
  have up' : Up (t'.dirt y D') := up_same a.up (by rw [ht']; rfl) (by rw [ht']; rfl) (by rw [ht']; rfl) (by rw [ht']; rfl) (by rw [ht']; rfl)
  have hss := setTop (m := m) (b := b) a.up a.low up'.nm
  have up1 : Up t' := up_same a.up (by rw [ht']) (by rw [ht']) (by rw [ht']) (by rw [ht']) (by rw [ht'])
  have hs1 := setTop (m := m) (b := b) a.up a.low up1.nm
  have hs2 := setTop (m := m) (b := b) up1 a.low up'.nm
  rw [hss] at a'
  have hfx : findI t'.nm [t', m, b] = some t' := by rw [up1.nm]; exact fTop up1
  have w1 : Wl [t', m, b] := by rw [← hs1]; exact hf.1
  have hcd : ∀ nm k, conts [t'.dirt y D', m, b] nm k = conts [t', m, b] nm k := fun nm k => by rw [← hs2]; exact conts_dirt w1 hfx nm k
  have hnd : (D'.map (·.1)).Nodup := ((a'.im (t'.dirt y D') (by simp)).bmd { y with D := D' } (by simp [Im.dirt])).nodup
  refine ⟨a', a.low, up', by rw [ht']; exact a.S, rfl, a.sn, a.snm, a.en, a.gr, gran_rng hg hnd a.nd hW hp a.rng, fun k hk hne => ?_, fun k => ?_, fun z hz c hc => ?_⟩
  · by_cases h1 : p ≤ k ∧ k < p + q
    · exact gran_in hg h1
    · refine gran_keep hg (a.chg k hk fun e => hne ?_)
      have := hl.cont k
      rw [a.up.nm, if_neg h1, hs1] at this
      rw [hcd, this, e]
  · rw [hcd, ← hs1, hl.others (by rw [a.up.nm]; exact noTop a.up a.low) (by rw [a.up.nm]; decide)]
    exact a.mid k
  · simp at hz
    rcases hz with rfl | rfl | rfl
    · have hB' : t'.B = [y] := by rw [ht']; exact a.B
      have := foot_dirt hB' hc
      exact a.fr t (by simp) c (by rw [ht'] at this; exact this)
    · exact a.fr z (by simp) c hc
    · exact a.fr z (by simp) c hc
/-- The image is as it was: all is dirty. -/
theorem DS.applied {h0 g' : Heap} {g : Heap} {w wm m' : Nat} {t m b : Im} {s : Sn} {y : Bm} {gran W : Nat} {c0 cm : Nat → List UInt8} {D' : List (Int × Value)} (a : DS h0 g w wm t m b s y gran W c0 cm) (hW : 0 < W) (hm : h0.size ≤ m') (hg : granT W 0 20 y.D D')
    (a' : WdAt g' w wm (setI ((t.asWas s m').dirt y D') [t, m, b])) : DS h0 g' w wm ((t.asWas s m').dirt y D') m b s { y with D := D' } gran W c0 cm := by
  have up' : Up ((t.asWas s m').dirt y D') := ⟨a.up.nm, a.up.bk, a.sn, a.up.cs, a.up.bits⟩
  have hss := setTop (m := m) (b := b) a.up a.low up'.nm
  have hmid : ∀ k, conts [(t.asWas s m').dirt y D', m, b] nMid k = conts [t, m, b] nMid k := fun k => by
    rw [← hss]
    refine conts_setI (fun z hz => ?_) (by rw [up'.nm]; decide)
    rw [up'.nm]
    exact noTop a.up a.low z hz
  rw [hss] at a'
  have hnd : (D'.map (·.1)).Nodup := ((a'.im ((t.asWas s m').dirt y D') (by simp)).bmd { y with D := D' } (by simp [Im.dirt])).nodup
  refine ⟨a', a.low, up', a.S, rfl, a.sn, a.snm, a.en, a.gr, gran_rng hg hnd a.nd hW (by omega) a.rng, fun k hk _ => gran_in hg (by omega), fun k => (hmid k).trans (a.mid k), fun z hz c hc => ?_⟩
  simp at hz
  rcases hz with rfl | rfl | rfl
  · rcases hc with e | e | ⟨z, hz, e⟩ | ⟨z, hz, e⟩ | e | e
    · exact a.fr t (by simp) c (.inl e)
    · rw [e]; exact hm
    · exact a.fr t (by simp) c (.inr (.inr (.inl ⟨z, hz, e⟩)))
    · have ez : z = { y with D := D' } := by simpa [Im.dirt] using hz
      exact a.fr t (by simp) c (.inr (.inr (.inr (.inl ⟨y, by rw [a.B]; simp, by rw [e, ez]⟩))))
    · exact a.fr t (by simp) c (.inr (.inr (.inr (.inr (.inl e)))))
    · exact a.fr t (by simp) c (.inr (.inr (.inr (.inr (.inr e)))))
  · exact a.fr z (by simp) c hc
  · exact a.fr z (by simp) c hc
theorem okS : OkN [115] := ⟨by decide, by decide, by decide⟩
theorem okD : OkN [100] := ⟨by decide, by decide, by decide⟩
set_option maxHeartbeats 4000000 in
theorem ModelDirty_c {n : Int} {sv : Value} {xs : List Stp} (hn : i64 n) (sp : Sps h sv xs) (H : ∀ h', Ext h h' → K (.bool true) h') : CallsH Tryz.prog 3 #[sv, .int .i64 n] h K ⟨⟩ := by
  refine n3_calls ?_
  unfold n3
  obtain ⟨sa, sc, rfl⟩ := sp.form
  have hxl := sp.len
  unfold i64 at hn
  have wk : ∀ (K0 : Value → Heap → Prop), (∀ h', Ext h h' → K0 (.bool true) h') → CallsH Tryz.prog 5 #[] h K0 ⟨⟩ := fun K0 hk => works_c hk
  by_cases c5 : xs.length ≤ 12
  case neg =>
    simp (disch := omega)
    exact wk _ fun h' e => H h' e
  by_cases c1 : 9 ≤ n
  case neg =>
    simp (disch := omega)
    exact wk _ fun h' e => H h' e
  by_cases c2 : n ≤ 20
  case neg =>
    simp (disch := omega)
    exact wk _ fun h' e => H h' e
  clear wk
  obtain ⟨n, rfl⟩ := Int.eq_ofNat_of_zero_le (show 0 ≤ n by omega)
  obtain ⟨W, hW⟩ : ∃ W, 2 ^ n = W := ⟨_, rfl⟩
  have hWl : 512 ≤ W ∧ W ≤ 1048576 := by
    rw [← hW]
    exact ⟨Nat.le_trans (by decide : 512 ≤ 2 ^ 9) (Nat.pow_le_pow_right (by decide) (by omega)), Nat.le_trans (Nat.pow_le_pow_right (by decide) (show n ≤ 20 by omega)) (by decide)⟩
  simp (disch := omega)
  refine grow_c (xs := []) ⟨.inl ⟨rfl, rfl⟩, fun x hx => (by cases hx), by simp⟩ fun h1 w wm t m b e1 G tS tB _ => ?_
  unfold ptrV
  simp (disch := omega)
  rw [show (.pointer (some ⟨w, 0, none⟩) : Value) = ptrV w from rfl]
  rw [show str [116, 111, 112] = str nTop from rfl]
  refine Add_c G.at_ okTop G.up.nm (fTop G.up) okD tB (by omega) fun h2 m2 v2 hm2 hf2 a2 M2 => ?_
  obtain ⟨t1, ht1⟩ : ∃ t1, t1 = t.withB ⟨[100], n, true, m2, []⟩ v2 := ⟨_, rfl⟩
  rw [← ht1] at a2 hf2
  have up1 : Up t1 := by rw [ht1]; exact ⟨G.up.nm, G.up.bk, G.up.n, G.up.cs, G.up.bits⟩
  rw [setTop G.up G.low up1.nm] at a2
  have fr0 : ∀ b, b < h.size → ¬ footI t b := fun b hb e => by have := G.fr t (by simp) b e; omega
  have E2 : Ext h h2 := M2.ext_from e1 fr0
  have fr1 : ∀ c, footI t1 c → h.size ≤ c := fun c hc => (hf2 c hc).elim (G.fr t (by simp) c) (fun e => by have := e1.size; omega)
  simp (disch := omega)
  refine num_c ?_
  simp (disch := omega)
  have t1S : t1.S = [] := by rw [ht1]; exact tS
  try rw [show str [116, 111, 112] = str nTop from rfl]
  refine Snap_c a2 okTop up1.nm (fTop up1) okS t1S fun h3 m3 v3 hm3 hf3 a3 M3 => ?_
  obtain ⟨s, hs⟩ : ∃ s : Sn, s = ⟨[115], t1.n, m3, t1.F, t1.G⟩ := ⟨_, rfl⟩
  obtain ⟨y, hy⟩ : ∃ y : Bm, y = ⟨[100], n, true, m2, []⟩ := ⟨_, rfl⟩
  obtain ⟨t2, ht2⟩ : ∃ t2, t2 = t1.snapd [115] m3 v3 := ⟨_, rfl⟩
  rw [← ht2] at a3 hf3
  have up2 : Up t2 := by rw [ht2]; exact ⟨up1.nm, up1.bk, up1.n, up1.cs, up1.bits⟩
  rw [setTop up1 G.low up2.nm] at a3
  have E3 : Ext h h3 := M3.ext_from E2 (fun b hb e => by have := fr1 b e; omega)
  have fr2 : ∀ c, footI t2 c → h.size ≤ c := fun c hc => (hf3 c hc).elim (fr1 c) (fun e => by have := E2.size; omega)
  have t2S : t2.S = [s] := by rw [ht2, hs]; rfl
  have t2B : t2.B = [y] := by rw [ht2, ht1, hy]; rfl
  simp (disch := omega)
  refine num_c ?_
  simp (disch := omega)
  have S0 : DS h h3 w wm t2 m b s y n W (fun k => conts [t2, m, b] nTop k) (fun k => conts [t2, m, b] nMid k) := by
    refine ⟨a3, G.low, up2, t2S, t2B, by rw [hs]; exact up1.n, by rw [hs], by rw [hy], by rw [hy], fun p hp => (by rw [hy] at hp; cases hp), fun k _ hne => absurd rfl hne, fun _ => rfl, fun z hz c hc => ?_⟩
    simp at hz
    rcases hz with rfl | rfl | rfl
    · exact fr2 c hc
    · exact G.fr z (by simp) c hc
    · exact G.fr z (by simp) c hc
  try rw [show str [116, 111, 112] = str nTop from rfl]
  rw [show str [109, 105, 100] = str nMid from rfl]
  refine all_c S0.at_ okTop up2.nm (fTop up2) (.inr ⟨s, t2S⟩) (.inr ⟨y, t2B, by rw [hy]; simp⟩) (by rw [up2.n]; decide) fun h4 Lw e4 hLw hsw => ?_
  rw [up2.n] at hLw hsw
  simp (disch := omega)
  refine all_c (S0.at_.ext e4) okMid G.low.mn (fMid up2 G.low) (.inl G.low.mS) (.inl G.low.mB) (by rw [G.low.ms]; decide) fun h5 Lm e5 hLm hsm => ?_
  rw [G.low.ms] at hLm hsm
  simp (disch := omega)
  have S5 := S0.ext (e4.trans e5)
  have E5 := E3.trans (e4.trans e5)
  obtain ⟨c0, hc0⟩ : ∃ c0 : Nat → List UInt8, c0 = fun k => conts [t2, m, b] nTop k := ⟨_, rfl⟩
  obtain ⟨cm, hcm⟩ : ∃ cm : Nat → List UInt8, cm = fun k => conts [t2, m, b] nMid k := ⟨_, rfl⟩
  rw [← hc0, ← hcm] at S5
  have hsw' : ∀ k, k < 20 → sct Lw k = c0 k := fun k hk => by rw [hc0]; exact hsw k hk
  have hsm' : ∀ k, k < 12 → sct Lm k = cm k := fun k hk => by rw [hcm]; exact hsm k hk
  clear S0 hsw hsm hc0 hcm a3 a2 hf2 hf3 fr0 fr1 fr2 tS tB t1S t2S t2B hs hy
  refine loopX1 (α := Nat × Im × Sn × Bm) (fun a => .int .i64 a.1) (fun a g => a.1 ≤ xs.length ∧ Ext h g ∧ DS h g w wm a.2.1 m b a.2.2.1 a.2.2.2 n W c0 cm) (fun a => xs.length - a.1) (0, t2, s, y) rfl ⟨by simp, E5, S5⟩ ?_
  clear S5 up2 ht2 ht1 up1 M2 M3 G E2 E3 E5
  rintro ⟨i, t, s, y⟩ g ⟨hi, eg, S⟩ X hX
  dsimp only at hi S hX ⊢
  have hgW : 2 ^ y.gran = W := by rw [S.gr]; exact hW
  have hg26 : y.gran ≤ 26 := by rw [S.gr]; omega
  by_cases hin : i < xs.length
  · obtain ⟨ad, sc', hv', -⟩ := (sp.ext eg).cell hin
    obtain ⟨rfl, -⟩ : sa = some ad ∧ sc = sc' := by cases hv'; exact ⟨rfl, rfl⟩
    have ok := (sp.ok _ (List.getElem_mem hin)).ext eg
    obtain ⟨c0', c5, c6, c7⟩ : hcell g (elt ad (i * 9)) = some (.int .i64 xs[i].kind) ∧ hcell g (elt ad (i * 9 + 5)) = some (.int .i64 xs[i].at_) ∧ hcell g (elt ad (i * 9 + 6)) = some (.int .i64 xs[i].n) ∧ hcell g (elt ad (i * 9 + 7)) = some xs[i].bv := by
      obtain ⟨ad2, sc2, hv2, d0, d5, d6, d7, d8⟩ := (sp.ext eg).cell hin
      obtain ⟨rfl, -⟩ : ad = ad2 ∧ sc = sc2 := by cases hv2; exact ⟨rfl, rfl⟩
      exact ⟨d0, d5, d6, d7⟩
    generalize hxi : xs[i] = st at *
    obtain ⟨va, vc, hbv⟩ : ∃ va vc, st.bv = .slice va st.b.length vc := by
      rcases ok.b with ⟨h1, h2⟩ | ⟨ad, c, h1, -, -⟩
      · exact ⟨none, 0, by rw [h1, h2]; rfl⟩
      · exact ⟨some ad, c, h1⟩
    have hat := ok.at_
    have hnn := ok.n
    have hkk := ok.kind
    unfold i64 at hat hnn hkk
    have hft : ∀ b, b < h.size → ¬ footI t b := fun b hb e => by have := S.fr t (by simp) b e; omega
    have fin : ∀ g' t' y', Ext h g' → DS h g' w wm t' m b s y' n W c0 cm → X (.int .i64 ((i : Int) + 1)) g' := fun g' t' y' e' S' => hX (i + 1, t', s, y') _ _ (by simp) ⟨by dsimp only; omega, e', S'⟩ (by dsimp only; omega)
    simp (disch := omega)
    refine JoinN.mk ?_
    refine JoinN.mk ?_
    simp (disch := omega) [c0']
    refine JoinN.mk ?_
    refine JoinN.mk ?_
    rw [hbv] at c7
    have WR : ∀ K2 : Value → Heap → Prop, (∀ v g', X (.int .i64 ((i : Int) + 1)) g' → K2 v g') → CallsH Tryz.prog 11 #[ptrV w, str nTop, .int .i64 st.at_, .slice va st.b.length vc] g K2 ⟨⟩ := fun K2 hk => by
      rw [← hbv]
      refine Write1_c S.at_ okTop S.up.nm (fTop S.up) hat (noTop S.up S.low) S.B S.en hgW hg26 ok.b ok.bl (fun g1 e e1 => hk _ _ (fin g1 t y (eg.trans e1) (S.ext e1))) (fun x' D' g1 hc l hg a1 m1 => hk _ _ (fin g1 _ _ (m1.ext_from eg hft) (S.wrote (by omega) l ?_ hg a1)))
      have := S.up.n
      omega
    have ZR : ∀ K2 : Value → Heap → Prop, (∀ v g', X (.int .i64 ((i : Int) + 1)) g' → K2 v g') → CallsH Tryz.prog 22 #[ptrV w, str nTop, .int .i64 st.at_, .int .i64 st.n] g K2 ⟨⟩ := fun K2 hk => by
      refine Zero1_c S.at_ okTop S.up.nm (fTop S.up) hat hnn (noTop S.up S.low) S.B S.en hgW hg26 (fun g1 e e1 _ _ => hk _ _ (fin g1 t y (eg.trans e1) (S.ext e1))) (fun x' D' g1 hc l hg a1 m1 => hk _ _ (fin g1 _ _ (m1.ext_from eg hft) (S.wrote (by omega) l ?_ hg a1)))
      have := S.up.n
      omega
    by_cases k0 : st.kind.tmod 4 = 0
    · simp (disch := omega) [k0, c5, c7]
      refine WR _ fun v g' hx => ?_
      simp (disch := omega)
      exact hx
    by_cases k1 : st.kind.tmod 4 = 1
    · simp (disch := omega) [k1, c5, c7]
      refine WR _ fun v g' hx => ?_
      simp (disch := omega)
      exact hx
    by_cases k2 : st.kind.tmod 4 = 2
    · simp (disch := omega) [k2, c5, c6]
      refine n12_calls ?_
      unfold n12
      refine ZR _ fun v g' hx => ?_
      simp (disch := omega)
      exact hx
    · simp (disch := omega) [k0, k1, k2]
      refine Apply_c S.at_ okTop S.up.nm (fTop S.up) okS S.S S.snm (by rw [S.sn]; decide) (noTop S.up S.low) fun h1 m' hm' a1 M1 K1 hK1 => ?_
      have upA : Up (t.asWas s m') := ⟨S.up.nm, S.up.bk, S.sn, S.up.cs, S.up.bits⟩
      have a1' := a1
      rw [setTop S.up S.low upA.nm] at a1'
      have ax1 := a1'.im (t.asWas s m') (by simp)
      have hBA : (t.asWas s m').B = [y] := S.B
      have hfA : findI (t.asWas s m').nm [t.asWas s m', m, b] = some (t.asWas s m') := by rw [upA.nm]; exact fTop upA
      have hrng := S.rng
      have hfew := few_keys S.nd hWl.1 hrng
      rw [show ptrV t.b = ptrV (t.asWas s m').b from rfl]
      refine trim1_c (W := W) ax1 hBA hgW hg26 (fun p hp => by rw [upA.n]; exact hrng p hp) (by omega) fun h5 mp5 m5 => ?_
      have a5 := a1'.dirt hfA hBA mp5 m5
      have upB : Up ((t.asWas s m').dirt y y.D) := ⟨S.up.nm, S.up.bk, S.sn, S.up.cs, S.up.bits⟩
      rw [setTop upA S.low upB.nm] at a5
      have ax5 := a5.im ((t.asWas s m').dirt y y.D) (by simp)
      have hBB : ((t.asWas s m').dirt y y.D).B = [y] := rfl
      have hfB : findI ((t.asWas s m').dirt y y.D).nm [(t.asWas s m').dirt y y.D, m, b] = some ((t.asWas s m').dirt y y.D) := by rw [upB.nm]; exact fTop upB
      refine hK1 _ _ (cellOf (i := 2) ax5.cells rfl) ?_
      rw [S.sn, show ptrV t.b = ptrV ((t.asWas s m').dirt y y.D).b from rfl, show (.int .i64 0 : Value) = .int .i64 ((0 : Nat) : Int) from rfl]
      refine touch1_c (W := W) (p := 0) (m := 20) ax5 hBB S.en (by omega) hgW hg26 fun h6 D' d1 d2 d3 => ?_
      have a6 := a5.dirt hfB hBB d1 d3
      have upC : Up (((t.asWas s m').dirt y y.D).dirt y D') := ⟨S.up.nm, S.up.bk, S.sn, S.up.cs, S.up.bits⟩
      rw [setTop upB S.low upC.nm] at a6
      have hb0 : ∀ b, b < h.size → ¬ b = t.b := fun b hb e => hft b hb (.inl e)
      have hy0 : ∀ b, b < h.size → ¬ b = y.m := fun b hb e => hft b hb (.inr (.inr (.inr (.inl ⟨y, by rw [S.B]; simp, e⟩))))
      have e6 : Ext h h6 := d3.ext_from (m5.ext_from (M1.ext_from eg hb0) hy0) hy0
      refine num_c ?_
      simp (disch := omega)
      refine fin h6 ((t.asWas s m').dirt y D') { y with D := D' } e6 (S.applied (m' := m') (by omega) (by have := eg.size; omega) d2 ?_)
      rw [setTop S.up S.low (show ((t.asWas s m').dirt y D').nm = nTop from S.up.nm)]
      exact a6
  · obtain rfl : i = xs.length := by omega
    simp (disch := omega)
    have hfew := few_keys S.nd hWl.1 S.rng
    refine all_c S.at_ okTop S.up.nm (fTop S.up) (.inr ⟨s, S.S⟩) (.inr ⟨y, S.B, by omega⟩) (by rw [S.up.n]; decide) fun h1 Ln e1' hLn hsn => ?_
    rw [S.up.n] at hLn hsn
    simp (disch := omega)
    refine all_c (S.at_.ext e1') okMid S.low.mn (fMid S.up S.low) (.inl S.low.mS) (.inl S.low.mB) (by rw [S.low.ms]; decide) fun h2 Lm2 e2' hLm2 hsm2 => ?_
    rw [S.low.ms] at hLm2 hsm2
    simp (disch := omega)
    refine Info_n (S.at_.ext (e1'.trans e2')) okTop S.up.nm (fTop S.up) (.inr ⟨s, S.S⟩) (.inr ⟨y, S.B, by omega⟩) fun h3 sv bv e3' hbo hsl => ?_
    obtain ⟨bb, bc, gs, arr, L, rfl, hbb, h3b, og, hp⟩ := hbo y S.B
    obtain ⟨a1, n1, c1, a2, n2, c2, rfl, -⟩ := hsl
    have hmm : Lm2 = Lm := ext_sct (n := 12) hLm2 hLm fun k hk => by rw [hsm2 k hk, hsm' k hk, S.mid]
    have hll : Ln.length = Lw.length := by rw [hLn, hLw]
    unfold piV
    rw [S.up.n]
    simp (disch := omega)
    refine num_c ?_
    simp (disch := omega)
    have hbc : hcell h3 ⟨bb, 3, none⟩ = some gs := cellOf (i := 3) hbb h3b
    obtain ⟨ga, gn, gc, hgs, -, -, -⟩ := og.form (by omega)
    subst hgs
    have hbl := get_some_lt hbb
    have hbs : ¬ bb = h3.size := by omega
    have hLfew : L.length ≤ 20 := by rw [hp.length_eq, List.length_map]; exact hfew
    have E3 := (eg.trans e1').trans (e2'.trans e3')
    refine loopX1 (α := Nat) (fun j => .int .i64 ((j * 512 : Nat) : Int)) (fun j g' => j ≤ 20 ∧ Ext h3 g' ∧ hcell g' ⟨h3.size, 5, none⟩ = some (.slice (some ⟨bb, 0, none⟩) 1 bc)) (fun j => 20 - j) 0 rfl ⟨by omega, (by repeat' (first | (with_reducible exact Ext.refl _) | (with_reducible assumption) | (with_reducible refine push_ext ?_) | (with_reducible refine hset_ext ?_ ?_) | (with_reducible refine Ext.trans ?_ (by assumption)) | omega | (simp; done) | (simp; omega) | (refine Ext.size ?_) | (refine Nat.le_succ_of_le (Ext.size ?_)))), by simp⟩ ?_
    rintro j g' ⟨hj, eg', k5⟩ X hX
    by_cases hj20 : j < 20
    · obtain ⟨J, hJ⟩ : ∃ J, J = j * 512 := ⟨_, rfl⟩
      rw [← hJ]
      have hbc' := hcell_ext eg' hbc
      have s1 : (Ln.take (J + 512)).drop J = sct Ln j := by
        unfold sct
        rw [List.drop_take, ← hJ]
        congr 1
        omega
      have s2 : (Lw.take (J + 512)).drop J = sct Lw j := by
        unfold sct
        rw [List.drop_take, ← hJ]
        congr 1
        omega
      have hs1 := fun (q : Bool) (tt : Nat) (o1 o2 : Go.Operand) (g : Heap) (K : Value → Heap → Prop) => Hp_shrW (P := Tryz.prog) (q := q) (t := tt) (x := o1) (y := o2) (k' := .i64) (K := K) (h := g) (a := (J : Int)) hW (by omega) (by omega)
      obtain ⟨gq, hgq⟩ : ∃ gq, gq = J / W := ⟨_, rfl⟩
      have hJW : (J : Int) / (W : Int) = (gq : Int) := by rw [hgq, Int.natCast_ediv]
      have hne : X (.int .i64 ((J : Int) + 512)) g' := hX (j + 1) _ _ (congrArg (Value.int .i64) (by omega)) ⟨by omega, eg', k5⟩ (by omega)
      by_cases hq : sct Ln j = sct Lw j
      · simp (disch := omega) [s1, s2, hq]
        exact hne
      · have hin : (gq : Int) ∈ L := by
          have h1 := S.chg j hj20 (by rw [← hsn j hj20, ← hsw' j hj20]; exact hq)
          rw [← hJ, ← hgq] at h1
          have h2 := (look2_some S.nd).1 h1
          exact hp.mem_iff.2 (List.mem_map.2 ⟨_, h2, rfl⟩)
        simp (disch := omega) [s1, s2, hq, k5, hbc', hs1, hJW]
        refine in_c (og.ext eg') (by omega) ?_
        rw [decide_eq_true hin]
        simp (disch := omega)
        exact hne
    · obtain rfl : j = 20 := by omega
      simp (disch := omega)
      exact works_c fun h' e => H h' ((E3.trans eg').trans e)
end Go.Proofs.YtoonjlhfgjnnmaaGreat
namespace Go.Proofs.YtoonjlhfgjnnmaaGreat.modelDirty
open Go.ChangeShapes Go.WideShapes Go.ChangeAt Go.RowKit Go.Joins Go.Vc

theorem own : ownKnob Tryz.prog.godebug = none := by kernel_rfl
theorem laidOut : laidOutB Tryz.prog = true := by kernel_rfl

set_option maxRecDepth 100000 in
set_option maxHeartbeats 1000000 in
theorem lifted (os : Os) (started : os.Started) (H : Type) (enc : TypeId × Value → H) :
    ReturnsInHanded {} Tryz.checked os 3 .any (Rows.modelDirtySpec.pre6 enc Tryz.prog Tryz.f3 Rows.modelDirtyRow.domain false) (Rows.modelDirtySpec.post enc Tryz.prog Tryz.f3 false true false false) := by
  refine returnsInHanded_of_change (C := Tryz.checked) own started (by kernel_rfl) Tryz.func3
    (ChangeSpec.witness6 (enc := enc) (C := Tryz.checked) false ⟨#[], #[.slice none 0 0, .int .i64 0], []⟩ 8 (by kernel_rfl) (by kernel_rfl) (by kernel_rfl) (by kernel_rfl)) ?_
  intro W base args ds gs before hval0 hW hcnd _
  have hval : ∀ (j : Nat) t v, Tryz.f3.params[j]? = some t → args[j]? = some v → Value.okWide Tryz.prog W .any base t v := hval0
  have hW' := hW
  obtain ⟨p, q, hA0, hV, rfl, hfz, hnd⟩ := hW
  have hA : DataW.TrodAll enc Tryz.prog W 0 (fun _ => true) true Tryz.f3.params.toList args.toList ds p := hA0
  rw [Tryz.params3] at hA hval
  obtain ⟨v0, vs0, d0, ds0, p0, q0, hargs, rfl, rfl, h0, r0⟩ := trodAll_cons hA
  obtain ⟨v1, vs1, d1, ds1, p1, q1, rfl, rfl, rfl, h1, r1⟩ := trodAll_cons r0
  obtain ⟨rfl, rfl, rfl⟩ := trodAll_nil r1
  obtain rfl : args = #[v0, v1] := by cases args; simp_all
  obtain ⟨xs, hxs⟩ := open_steps (hval 0 22 v0 rfl rfl) h0
  obtain ⟨n1, hn1, r1'⟩ := (Laid.top (hval 1 3 v1 rfl rfl) h1 (by kernel_rfl)).int (k := .i64) (by kernel_rfl)
  obtain rfl : v1 = .int .i64 n1 := by simpa using hn1
  refine ((ModelDirty_c (h := W.heap) (i64_of r1') hxs (K := fun v h' => v = .bool true ∧ Ext W.heap h') (fun h' e => ⟨rfl, e⟩)).out W rfl).mono fun e W' ⟨v, he, hs, hv, hx⟩ => ?_
  exact ⟨v, he, hv ▸ law_post laidOut (by kernel_rfl) rfl (tb := 4) (by kernel_rfl) (by kernel_rfl) hW' (fun hg => by rw [hg]; rfl) (below_of hs hx)⟩

theorem proved : Rows.ModelDirtySaid :=
  OpenClaim.holds_of_wide 3 Tryz.f3 rfl rfl rfl rfl rfl rfl rfl ⟨rfl, rfl, rfl, rfl, rfl⟩ rfl rfl rfl rfl rfl (by kernel_rfl) Tryz.func3 (by kernel_rfl)
    (of_decide_eq_true (by kernel_rfl)) (by unfold Func.isWrapper; first | (rw [if_pos (by decide +kernel)]; kernel_rfl) | (rw [if_neg (by decide +kernel)]; exact ⟨rfl, rfl⟩))
    (fun os started H enc _ => lifted os started H enc)
end Go.Proofs.YtoonjlhfgjnnmaaGreat.modelDirty
