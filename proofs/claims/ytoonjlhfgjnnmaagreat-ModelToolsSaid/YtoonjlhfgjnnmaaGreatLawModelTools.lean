/- What is proved: the law palimpsestlaw25.ModelTools returns true for every input, and its arguments read as they did. No conditions. -/
import Derived.Test.YtoonjlhfgjnnmaaGreatRows
import Derived.Test.YtoonjlhfgjnnmaaGreatMdlF
set_option linter.unusedSimpArgs false
set_option linter.unusedVariables false
namespace Go.Proofs.YtoonjlhfgjnnmaaGreat
open Go.Vc
variable {K : Value → Heap → Prop} {h : Heap}

def nFlat : List UInt8 := [102, 108, 97, 116]
theorem okFlat : OkN nFlat := ⟨by decide, by decide, by decide⟩
theorem okS : OkN [115] := ⟨by decide, by decide, by decide⟩
/-- Four images of these names. -/
structure N4 (f t m b : Im) : Prop where
  fn : f.nm = nFlat
  tn : t.nm = nTop
  mn : m.nm = nMid
  bn : b.nm = nBase
theorem N4.ff {f t m b : Im} (a : N4 f t m b) : findI nFlat [f, t, m, b] = some f := by unfold findI; rw [if_pos a.fn.symm]
theorem N4.ft {f t m b : Im} (a : N4 f t m b) : findI nTop [f, t, m, b] = some t := by
  unfold findI; rw [if_neg (by rw [a.fn]; decide)]
  unfold findI; rw [if_pos a.tn.symm]
theorem N4.fm {f t m b : Im} (a : N4 f t m b) : findI nMid [f, t, m, b] = some m := by
  unfold findI; rw [if_neg (by rw [a.fn]; decide)]
  unfold findI; rw [if_neg (by rw [a.tn]; decide)]
  unfold findI; rw [if_pos a.mn.symm]
theorem N4.fb {f t m b : Im} (a : N4 f t m b) : findI nBase [f, t, m, b] = some b := by
  unfold findI; rw [if_neg (by rw [a.fn]; decide)]
  unfold findI; rw [if_neg (by rw [a.tn]; decide)]
  unfold findI; rw [if_neg (by rw [a.mn]; decide)]
  unfold findI; rw [if_pos a.bn.symm]
theorem N4.setT {f t t' m b : Im} (a : N4 f t m b) (e : t'.nm = nTop) : setI t' [f, t, m, b] = [f, t', m, b] := by
  unfold setI
  simp only [List.map_cons, List.map_nil]
  rw [if_neg (by rw [a.fn, e]; decide), if_pos (by rw [a.tn, e]), if_neg (by rw [a.mn, e]; decide), if_neg (by rw [a.bn, e]; decide)]
theorem N4.setM {f t m m' b : Im} (a : N4 f t m b) (e : m'.nm = nMid) : setI m' [f, t, m, b] = [f, t, m', b] := by
  unfold setI
  simp only [List.map_cons, List.map_nil]
  rw [if_neg (by rw [a.fn, e]; decide), if_neg (by rw [a.tn, e]; decide), if_pos (by rw [a.mn, e]), if_neg (by rw [a.bn, e]; decide)]
theorem N4.contF {f t m b : Im} (a : N4 f t m b) {nm : List UInt8} {k : Nat} (h : nm ≠ nFlat) : conts [f, t, m, b] nm k = conts [t, m, b] nm k := by
  conv => lhs; unfold conts
  rw [if_neg (by rw [a.fn]; exact h)]
theorem mem4 {f t m b : Im} {p : Im → Prop} (h1 : p f) (h2 : p t) (h3 : p m) (h4 : p b) : ∀ y ∈ [f, t, m, b], p y := fun y hy => by
  simp at hy
  rcases hy with rfl | rfl | rfl | rfl <;> assumption
/-- Apart from what has changed. -/
theorem wdMod {w wm : Nat} {xs : List Im} {S : Nat → Prop} {h' : Heap} (a : WdAt h w wm xs) (m : Mod S h h') (h1 : ¬ S w) (h2 : ¬ S wm) (h3 : ∀ x ∈ xs, ∀ b, footI x b → ¬ S b) (h4 : ∀ b arr, h[b]? = some (.cells arr u8T) → ¬ S b) : WdAt h' w wm xs := by
  obtain ⟨M, hM, hl⟩ := a.map
  exact ⟨(m.block _ (get_some_lt a.cells) h1).trans a.cells, ⟨M, hM.mod m h2, hl⟩, a.wl, fun x hx => (a.im x hx).mod m (h3 x hx) (fun b arr hb _ => h4 b arr hb), a.ap, a.wf, a.nm, a.few⟩
theorem rng_few {F : List (Int × Value)} (hn : (F.map (·.1)).Nodup) (hr : ∀ c : Int, look2 c F ≠ none → 0 ≤ c ∧ c < 20) : F.length ≤ 20 := by
  have h1 : ((F.map (·.1)).map Int.toNat).Nodup := by
    refine List.Pairwise.map _ (fun a b hab => hab) ?_
    refine hn.imp_of_mem ?_
    intro a b ha hb hab e
    have k : ∀ c ∈ F.map (·.1), 0 ≤ c ∧ c < 20 := fun c hc => by
      obtain ⟨p, hp, rfl⟩ := List.mem_map.1 hc
      exact hr p.1 (fun e => look2_none.1 e p.2 hp)
    have := k a ha
    have := k b hb
    exact hab (by omega)
  have h2 := nodup_len (n := 20) h1 (fun i hi => by
    obtain ⟨x, hx, rfl⟩ := List.mem_map.1 hi
    obtain ⟨p, hp, rfl⟩ := List.mem_map.1 hx
    have := hr p.1 (fun e => look2_none.1 e p.2 hp)
    omega)
  simpa using h2
set_option maxHeartbeats 8000000 in
theorem ModelTools_c {sv : Value} {xs : List Stp} (sp : Sps h sv xs) (H : ∀ h', Ext h h' → K (.bool true) h') : CallsH Tryz.prog 4 #[sv] h K ⟨⟩ := by
  refine n4_calls ?_
  unfold n4
  obtain ⟨sa, sc, rfl⟩ := sp.form
  have hxl := sp.len
  by_cases c5 : xs.length ≤ 12
  case neg =>
    simp (disch := omega)
    exact works_c fun h' e => H h' e
  simp (disch := omega)
  refine grow_c sp fun h1 w wm t m b e1 G tS tB _ => ?_
  have z1 := e1.size
  unfold ptrV
  simp (disch := omega)
  rw [show (.pointer (some ⟨w, 0, none⟩) : Value) = ptrV w from rfl]
  rw [show str [116, 111, 112] = str nTop from rfl]
  refine all_c G.at_ okTop G.up.nm (fTop G.up) (.inl tS) (.inl tB) (by rw [G.up.n]; decide) fun h2 Lw e2 hLw hsw => ?_
  rw [G.up.n] at hLw hsw
  simp (disch := omega)
  refine Snap_c (G.at_.ext e2) okTop G.up.nm (fTop G.up) okS tS fun h3 m3 v3 hm3 hf3 a3 M3 => ?_
  obtain ⟨s, hs⟩ : ∃ s : Sn, s = ⟨[115], t.n, m3, t.F, t.G⟩ := ⟨_, rfl⟩
  obtain ⟨t2, ht2⟩ : ∃ t2, t2 = t.snapd [115] m3 v3 := ⟨_, rfl⟩
  rw [← ht2] at a3 hf3
  have up2 : Up t2 := by rw [ht2]; exact ⟨G.up.nm, G.up.bk, G.up.n, G.up.cs, G.up.bits⟩
  rw [setTop G.up G.low up2.nm] at a3
  have E2 := e1.trans e2
  have E3 : Ext h h3 := M3.ext_from E2 (fun c hc e => by have := G.fr t (by simp) c e; omega)
  have z3 := E3.size
  have t2S : t2.S = [s] := by rw [ht2, hs]; rfl
  have t2B : t2.B = [] := by rw [ht2]; exact tB
  have fr2 : ∀ z ∈ [t2, m, b], ∀ c, footI z c → h.size ≤ c := fun z hz c hc => by
    simp at hz
    rcases hz with rfl | rfl | rfl
    · exact (hf3 c hc).elim (G.fr t (by simp) c) (fun e => by have := E2.size; omega)
    · exact G.fr z (by simp) c hc
    · exact G.fr z (by simp) c hc
  have cq : ∀ nm k, conts [t2, m, b] nm k = conts [t, m, b] nm k := fun nm k => by
    rw [← setTop G.up G.low up2.nm]
    refine conts_cq fun y hy e => ?_
    have : y = t := findI_uniq G.at_.wl.nd (by rw [G.up.nm]; exact fTop G.up) hy (by rw [e, up2.nm, G.up.nm])
    rw [this, ht2]
    exact ⟨rfl, rfl, rfl, rfl, rfl, rfl⟩
  simp (disch := omega)
  refine num_c ?_
  simp (disch := omega)
  rw [show str [102, 108, 97, 116] = str nFlat from rfl, show (.int .i64 12 : Value) = .int .i64 ((12 : Nat) : Int) from rfl]
  refine Convert_c a3 okTop up2.nm (fTop up2) okFlat ?_ (by omega) (by simp) fun h4 f fnm fbk fn fS fB a4 hcf ff M4 => ?_
  · unfold findI; rw [if_neg (by rw [up2.nm]; decide)]
    unfold findI; rw [if_neg (by rw [G.low.mn]; decide)]
    unfold findI; rw [if_neg (by rw [G.low.bn]; decide)]
    rfl
  rw [up2.n] at fn hcf
  have E4 : Ext h h4 := M4.ext_from E3 (fun c hc e => by have e' : c = wm := e; have := G.fw.2; omega)
  have n4 : N4 f t2 m b := ⟨fnm, up2.nm, G.low.mn, G.low.bn⟩
  simp (disch := omega)
  refine num_c ?_
  simp (disch := omega)
  refine all_c a4 okFlat fnm n4.ff (.inl fS) (.inl fB) (by rw [fn]; decide) fun h5 Lf e5 hLf hsf => ?_
  rw [fn] at hLf hsf
  have hff : Lf = Lw := ext_sct (n := 20) hLf hLw fun k hk => by rw [hsf k hk, hsw k hk, hcf k hk, cq]
  simp (disch := omega)
  refine (fun key => key) ?_
  rw [show ptrV w = ptrV w from rfl]
  have hcmp : ∀ k, k < max f.n t2.n → conts [f, t2, m, b] f.nm k = conts [f, t2, m, b] t2.nm k := fun k hk => by
    rw [fn, up2.n] at hk
    rw [fnm, up2.nm, hcf k (by omega), n4.contF (by decide)]
  have cmp : ∀ (g : Heap) (K2 : Value → Heap → Prop), Ext h4 g → (∀ g', Ext g g' → K2 (.tuple #[.int .i64 0, .bool true, .int .i64 0]) g') → CallsH Tryz.prog 17 #[ptrV w, str nFlat, str nTop] g K2 ⟨⟩ := fun g K2 e hk => by
    have key := Compare_c (K := K2) (x := f) (y := t2) (a4.ext e) (by rw [fnm]; exact okFlat) (by rw [up2.nm]; exact okTop) (by rw [fnm]; exact n4.ff) (by rw [up2.nm]; exact n4.ft) (fun h' e' _ => hk h' e') (fun h' k e' hk' hne _ => absurd (hcmp k hk') hne)
    rw [fnm, up2.nm] at key
    exact key
  refine cmp h5 _ e5 fun h6 e6 => ?_
  simp (disch := omega)
  refine num_c ?_
  simp (disch := omega) [hff]
  have E46 := e5.trans e6
  have a6 := a4.ext E46
  have E6 := E4.trans E46
  have hB4 : ∀ x ∈ [f, t2, m, b], x.B = [] := mem4 fB t2B G.low.mB G.low.bB
  have hS4 : ∀ x ∈ [f, t2, m, b], x.S = [] ∨ ∃ s, x.S = [s] := mem4 (.inl fS) (.inr ⟨s, t2S⟩) (.inl G.low.mS) (.inl G.low.bS)
  refine Copy_c a6 hB4 hS4 fun h7 cw cwm φ e7 c7 pφ hcw hcwm ffφ => ?_
  refine Copy_c (a6.ext e7) hB4 hS4 fun h8 dw dwm ψ e8 d8 pψ hdw hdwm ffψ => ?_
  obtain ⟨b1, m1, v1, u1, hct⟩ := pφ t2 (by simp)
  obtain ⟨b2, m2, v2, u2, hcm⟩ := pφ m (by simp)
  obtain ⟨b3, m3', v3', u3, hcb⟩ := pφ b (by simp)
  obtain ⟨b4, m4, v4, u4, hcf⟩ := pφ f (by simp)
  obtain ⟨b5, m5, v5, u5, hdt⟩ := pψ t2 (by simp)
  obtain ⟨b6, m6, v6, u6, hdm⟩ := pψ m (by simp)
  obtain ⟨b7, m7, v7, u7, hdb⟩ := pψ b (by simp)
  obtain ⟨b8, m8, v8, u8, hdf⟩ := pψ f (by simp)
  have nc : N4 (φ f) (φ t2) (φ m) (φ b) := ⟨by rw [hcf]; exact fnm, by rw [hct]; exact up2.nm, by rw [hcm]; exact G.low.mn, by rw [hcb]; exact G.low.bn⟩
  have nd : N4 (ψ f) (ψ t2) (ψ m) (ψ b) := ⟨by rw [hdf]; exact fnm, by rw [hdt]; exact up2.nm, by rw [hdm]; exact G.low.mn, by rw [hdb]; exact G.low.bn⟩
  have cqφ : ∀ x ∈ [f, t2, m, b], Cq (φ x) x := fun x hx => by
    obtain ⟨_, _, _, _, e⟩ := pφ x hx
    rw [e]; exact ⟨rfl, rfl, rfl, rfl, rfl, rfl⟩
  have cqψ : ∀ x ∈ [f, t2, m, b], Cq (ψ x) x := fun x hx => by
    obtain ⟨_, _, _, _, e⟩ := pψ x hx
    rw [e]; exact ⟨rfl, rfl, rfl, rfl, rfl, rfl⟩
  have hw0 : ∀ k, k < 20 → conts [f, t2, m, b] nTop k = sct Lw k := fun k hk => by rw [n4.contF (by decide), cq, ← hsw k hk]
  have hc0 : ∀ k, k < 20 → conts [φ f, φ t2, φ m, φ b] nTop k = sct Lw k := fun k hk => (conts_map (xs := [f, t2, m, b]) cqφ).trans (hw0 k hk)
  have hd0 : ∀ k, k < 20 → conts [ψ f, ψ t2, ψ m, ψ b] nTop k = sct Lw k := fun k hk => (conts_map (xs := [f, t2, m, b]) cqψ).trans (hw0 k hk)
  have c7' : WdAt h7 cw cwm [φ f, φ t2, φ m, φ b] := c7
  have d8' : WdAt h8 dw dwm [ψ f, ψ t2, ψ m, ψ b] := d8
  have hsm : s.m < h6.size := by
    have := ((a6.im t2 (by simp)).snc s (by rw [t2S]; simp)).map.lt
    exact this
  have hsS : ∀ x ∈ [f, t2, m, b], ∀ s' ∈ x.S, s'.m < h6.size := fun x hx s' hs' => ((a6.im x hx).snc s' hs').map.lt
  have z6 := E6.size
  have z7 := e7.size
  have z8 := e8.size
  have hrng2 : ∀ c : Int, look2 c t2.F ≠ none → 0 ≤ c ∧ c < 20 := by rw [ht2]; exact G.rng
  have hfew2 := rng_few ((a6.im t2 (by simp)).cl.map.nodup) hrng2
  -- c commits
  unfold ptrV
  simp (disch := omega)
  rw [show (.pointer (some ⟨w, 0, none⟩) : Value) = ptrV w from rfl, show (.pointer (some ⟨cw, 0, none⟩) : Value) = ptrV cw from rfl, show (.pointer (some ⟨dw, 0, none⟩) : Value) = ptrV dw from rfl]
  refine Commit_c (q := 3) (x := φ t2) (y := φ m) (c7'.ext e8) okTop nc.tn nc.ft (by rw [show (φ t2).bk = nMid by rw [hct]; exact up2.bk]; exact nc.fm) (by
    rw [nc.mn]
    exact mem4 (p := fun z => z.bk = nMid → z.nm = nTop) (fun e => by rw [hcf] at e; have e' : f.bk = nMid := e; rw [fbk] at e'; exact absurd e' (by decide)) (fun _ => nc.tn) (fun e => by rw [hcm] at e; have e' : m.bk = nMid := e; rw [G.low.mbk] at e'; exact absurd e' (by decide)) (fun e => by rw [hcb] at e; have e' : b.bk = nMid := e; rw [G.low.bk] at e'; exact absurd e' (by decide)))
    (by rw [hcm]; exact G.low.mB) ⟨by rw [hct]; exact up2.bits, by rw [hct]; exact up2.cs⟩ (by rw [hct]; show ∀ c : Int, look2 c t2.F ≠ none → 0 ≤ c ∧ c < (t2.n : Int); rw [up2.n]; exact hrng2) (by rw [hct]; show t2.n ≤ 1000; rw [up2.n]; decide) ⟨by rw [hcm, hct]; show m.n ≤ t2.n; rw [G.low.ms, up2.n]; decide, by rw [hcm]; show m.n = 3 * m.cs; rw [G.low.ms, G.low.mc]⟩ (by rw [hct]; show t2.F.length < 100000; omega) fun h9 cm' hcm' c9 hcc1 hcc2 M9 => ?_
  obtain ⟨F9, G9, hcm9⟩ := hcm'
  have cm9n : cm'.nm = nMid := by rw [hcm9]; exact nc.mn
  rw [nc.setM cm9n] at c9 hcc1 hcc2
  have nc9 : N4 (φ f) (φ t2) cm' (φ b) := ⟨nc.fn, nc.tn, cm9n, nc.bn⟩
  rw [show (φ t2).n = 20 by rw [hct]; exact up2.n, nc.mn] at hcc1
  rw [show (φ t2).n = 20 by rw [hct]; exact up2.n] at hcc2
  -- where things lie
  have cmb : h6.size ≤ (φ m).b ∧ h6.size ≤ (φ m).m ∧ (φ m).b < h7.size ∧ (φ m).m < h7.size := by
    have i1 := c7'.im (φ m) (by simp)
    have f1 := ffφ m (by simp) (φ m).b (.inl rfl)
    have f2 := ffφ m (by simp) (φ m).m (.inr (.inl rfl))
    rw [G.low.mS] at f1 f2
    exact ⟨f1.resolve_right (fun ⟨s, hs, _⟩ => by cases hs), f2.resolve_right (fun ⟨s, hs, _⟩ => by cases hs), i1.lt (.inl rfl), i1.lt (.inr (.inl rfl))⟩
  have u8c : ∀ b' arr, h8[b']? = some (.cells arr u8T) → ¬ (b' = (φ m).b ∨ b' = (φ m).m) := fun b' arr hb e => ((c7'.ext e8).im (φ m) (by simp)).foot_u8 hb (e.elim .inl (fun e => .inr (.inl e)))
  have wfoot : ∀ x ∈ [f, t2, m, b], ∀ c, footI x c → c < h6.size := fun x hx c hc => (a6.im x hx).lt hc
  have ww : w < h6.size := get_some_lt a6.cells
  have wwm : wm < h6.size := a6.map.choose_spec.1.lt
  have dfoot : ∀ x ∈ [f, t2, m, b], ∀ c, footI (ψ x) c → h7.size ≤ c ∨ c < h6.size := fun x hx c hc => (ffψ x hx c hc).imp id (fun ⟨s', hs', e⟩ => by rw [e]; exact hsS x hx s' hs')
  have w9 : WdAt h9 w wm [f, t2, m, b] := wdMod ((a6.ext e7).ext e8) M9 (by omega) (by omega) (fun x hx c hc e => by have := wfoot x hx c hc; omega) u8c
  have d9 : WdAt h9 dw dwm [ψ f, ψ t2, ψ m, ψ b] := wdMod d8' M9 (by omega) (by omega) (fun x hx c hc e => by
    obtain ⟨x0, hx0, rfl⟩ : ∃ x0 ∈ [f, t2, m, b], x = ψ x0 := by
      have : x ∈ [f, t2, m, b].map ψ := hx
      obtain ⟨x0, h1, h2⟩ := List.mem_map.1 this
      exact ⟨x0, h1, h2.symm⟩
    have := dfoot x0 hx0 c hc
    omega) u8c
  have E8 : Ext h6 h8 := e7.trans e8
  have E9 : Ext h h9 := M9.ext_from (E6.trans E8) (fun c hc e => by omega)
  -- d gets another backing
  simp (disch := omega)
  refine num_c ?_
  simp (disch := omega)
  rw [show str [98, 97, 115, 101] = str nBase from rfl]
  have dbk : (ψ f).bk = [] ∧ (ψ t2).bk = nMid ∧ (ψ m).bk = nBase ∧ (ψ b).bk = [] := ⟨by rw [hdf]; exact fbk, by rw [hdt]; exact up2.bk, by rw [hdm]; exact G.low.mbk, by rw [hdb]; exact G.low.bk⟩
  have dn : (ψ t2).n = 20 := by rw [hdt]; exact up2.n
  have dno : ∀ y ∈ [ψ f, ψ t2, ψ m, ψ b], y.bk ≠ nTop := mem4 (by rw [dbk.1]; decide) (by rw [dbk.2.1]; decide) (by rw [dbk.2.2.1]; decide) (by rw [dbk.2.2.2]; decide)
  have wl4 : ∀ t' : Im, t'.nm = nTop → (t'.bk = nBase ∨ t'.bk = []) → Wl [ψ f, t', ψ m, ψ b] := fun t' e1 e2 => by
    have hw9 := d9.wl
    have n' : N4 (ψ f) t' (ψ m) (ψ b) := ⟨nd.fn, e1, nd.mn, nd.bn⟩
    refine ⟨?_, mem4 (by rw [nd.fn]; decide) (by rw [e1]; decide) (by rw [nd.mn]; decide) (by rw [nd.bn]; decide), .inl dbk.1, ?_, hw9.ch.2.2⟩
    · simp only [List.map_cons, List.map_nil, nd.fn, e1, nd.mn, nd.bn]; decide
    · rcases e2 with e2 | e2
      · refine .inr ⟨ψ b, ?_⟩
        rw [e2]
        unfold findI; rw [if_neg (by rw [nd.mn]; decide)]
        unfold findI; rw [if_pos nd.bn.symm]
      · exact .inl e2
  refine RebaseS_c (x := ψ t2) (new := nBase) d9 okTop nd.tn nd.ft (.inr ⟨okBase, _, nd.fb⟩) dno ⟨by rw [hdt]; exact up2.bits, by rw [hdt]; exact up2.cs⟩ (by rw [nd.setT (show ((ψ t2).on nBase).nm = nTop from nd.tn)]; exact wl4 _ nd.tn (.inl rfl)) ⟨2, by omega, ?_⟩ (by rw [dn, hdt]; exact hrng2) (by rw [dn]; decide) fun h10 t3 ht3 d10 hcd3 hrng3 M10 => ?_
  · show (if (if nTop = nTop then nBase else _) = nTop then nBase else bkOf [ψ f, ψ t2, ψ m, ψ b] (if nTop = nTop then nBase else _)) = []
    rw [if_pos rfl, if_neg (by decide)]
    unfold bkOf
    rw [nd.fb]
    exact dbk.2.2.2
  obtain ⟨F3, G3', ht3⟩ := ht3
  have t3n : t3.nm = nTop := by rw [ht3]; exact nd.tn
  rw [nd.setT t3n] at d10 hcd3
  rw [dn] at hcd3 hrng3
  have nd3 : N4 (ψ f) t3 (ψ m) (ψ b) := ⟨nd.fn, t3n, nd.mn, nd.bn⟩
  have dtb : h7.size ≤ (ψ t2).b ∧ h7.size ≤ (ψ t2).m := by
    have i1 := d8'.im (ψ t2) (by simp)
    have hS2 : (ψ t2).S = t2.S := by rw [hdt]
    refine ⟨(ffψ t2 (by simp) (ψ t2).b (.inl rfl)).resolve_right (fun ⟨s', hs', e⟩ => ?_), (ffψ t2 (by simp) (ψ t2).m (.inr (.inl rfl))).resolve_right (fun ⟨s', hs', e⟩ => ?_)⟩
    · obtain ⟨es, cl, q1, _⟩ := (i1.snc s' (by rw [hS2]; exact hs')).map
      have := i1.cells
      rw [e, q1] at this
      cases this
    · have hbd := i1.bnd
      rw [List.nodup_cons] at hbd
      exact hbd.1 (List.mem_append_left _ (by rw [e]; exact List.mem_map_of_mem (by rw [hS2]; exact hs')))
  have t3bm : t3.b = (ψ t2).b ∧ t3.m = (ψ t2).m := by rw [ht3]; exact ⟨rfl, rfl⟩
  have u8d : ∀ b' arr, h9[b']? = some (.cells arr u8T) → ¬ (b' = (ψ t2).b ∨ b' = (ψ t2).m) := fun b' arr hb e => (d9.im (ψ t2) (by simp)).foot_u8 hb (e.elim .inl (fun e => .inr (.inl e)))
  have cfoot : ∀ x ∈ [φ f, φ t2, cm', φ b], ∀ c, footI x c → c < h7.size := mem4 (p := fun x => ∀ c, footI x c → c < h7.size) (fun c hc => (c7'.im (φ f) (by simp)).lt hc) (fun c hc => (c7'.im (φ t2) (by simp)).lt hc) (fun c hc => (c7'.im (φ m) (by simp)).lt (by rw [hcm9] at hc; exact hc)) (fun c hc => (c7'.im (φ b) (by simp)).lt hc)
  have hcwl : cw < h7.size := get_some_lt c7'.cells
  have hcwml : cwm < h7.size := c7'.map.choose_spec.1.lt
  have c10 : WdAt h10 cw cwm [φ f, φ t2, cm', φ b] := wdMod c9 M10 (by omega) (by omega) (fun x hx c hc e => by have := cfoot x hx c hc; omega) u8d
  have w10 : WdAt h10 w wm [f, t2, m, b] := wdMod w9 M10 (by omega) (by omega) (fun x hx c hc e => by have := wfoot x hx c hc; omega) u8d
  have E10 : Ext h h10 := M10.ext_from E9 (fun c hc e => by omega)
  simp (disch := omega)
  refine num_c ?_
  simp (disch := omega)
  rw [show str [109, 105, 100] = str nMid from rfl]
  have cmn : cm'.n = 20 := by rw [hcm9]; show (φ t2).n = 20; rw [hct]; exact up2.n
  have ctn : (φ t2).n = 20 := by rw [hct]; exact up2.n
  refine all_c c10 okMid cm9n nc9.fm (.inl (by rw [hcm9]; show (φ m).S = []; rw [hcm]; exact G.low.mS)) (.inl (by rw [hcm9]; show (φ m).B = []; rw [hcm]; exact G.low.mB)) (by rw [cmn]; decide) fun h11 L1 e11 hL1 hs1 => ?_
  rw [cmn] at hL1 hs1
  have hq1 : L1 = Lw := ext_sct (n := 20) hL1 hLw fun k hk => by rw [hs1 k hk, hcc1 k hk, hc0 k hk]
  simp (disch := omega)
  refine all_c (c10.ext e11) okTop nc9.tn nc9.ft (.inr ⟨s, by rw [hct]; exact t2S⟩) (.inl (by rw [hct]; exact t2B)) (by rw [ctn]; decide) fun h12 L2 e12 hL2 hs2 => ?_
  rw [ctn] at hL2 hs2
  have hq2 : L2 = Lw := ext_sct (n := 20) hL2 hLw fun k hk => by rw [hs2 k hk, hcc2 k hk, hc0 k hk]
  simp (disch := omega) [hq1, hq2]
  have t3r : t3.n = 20 ∧ t3.S = [s] ∧ t3.B = [] ∧ t3.bits = 9 ∧ t3.cs = 1 ∧ t3.bk = nBase := by
    rw [ht3]
    refine ⟨dn, ?_, ?_, ?_, ?_, rfl⟩
    · show (ψ t2).S = [s]; rw [hdt]; exact t2S
    · show (ψ t2).B = []; rw [hdt]; exact t2B
    · show (ψ t2).bits = 9; rw [hdt]; exact up2.bits
    · show (ψ t2).cs = 1; rw [hdt]; exact up2.cs
  have E12 := e11.trans e12
  refine all_c (d10.ext E12) okTop t3n nd3.ft (.inr ⟨s, t3r.2.1⟩) (.inl t3r.2.2.1) (by rw [t3r.1]; decide) fun h13 L3 e13 hL3 hs3 => ?_
  rw [t3r.1] at hL3 hs3
  have hq3 : L3 = Lw := ext_sct (n := 20) hL3 hLw fun k hk => by rw [hs3 k hk, hcd3 k hk, hd0 k hk]
  simp (disch := omega) [hq3]
  have E13 := E12.trans e13
  have dno3 : ∀ y ∈ [ψ f, t3, ψ m, ψ b], y.bk ≠ nTop := mem4 (by rw [dbk.1]; decide) (by rw [t3r.2.2.2.2.2]; decide) (by rw [dbk.2.2.1]; decide) (by rw [dbk.2.2.2]; decide)
  refine RebaseS_c (x := t3) (new := []) (d10.ext E13) okTop t3n nd3.ft (.inl rfl) dno3 ⟨t3r.2.2.2.1, t3r.2.2.2.2.1⟩ (by rw [nd3.setT (show (t3.on []).nm = nTop from t3n)]; exact wl4 _ t3n (.inr rfl)) ⟨1, by omega, by show (if nTop = nTop then [] else _) = []; rw [if_pos rfl]⟩ (by rw [t3r.1]; exact hrng3) (by rw [t3r.1]; decide) fun h14 t4 ht4 d14 hcd4 hrng4 M14 => ?_
  obtain ⟨F4, G4', ht4⟩ := ht4
  have t4n : t4.nm = nTop := by rw [ht4]; exact t3n
  rw [nd3.setT t4n] at d14 hcd4
  rw [t3r.1] at hcd4
  have nd4 : N4 (ψ f) t4 (ψ m) (ψ b) := ⟨nd.fn, t4n, nd.mn, nd.bn⟩
  have t4r : t4.n = 20 ∧ t4.S = [s] ∧ t4.B = [] ∧ t4.bk = [] := by
    rw [ht4]
    exact ⟨t3r.1, t3r.2.1, t3r.2.2.1, rfl⟩
  have u8e : ∀ b' arr, h13[b']? = some (.cells arr u8T) → ¬ (b' = t3.b ∨ b' = t3.m) := fun b' arr hb e => ((d10.ext E13).im t3 (by simp)).foot_u8 hb (e.elim .inl (fun e => .inr (.inl e)))
  have w14 : WdAt h14 w wm [f, t2, m, b] := wdMod (w10.ext E13) M14 (by omega) (by omega) (fun x hx c hc e => by have := wfoot x hx c hc; omega) u8e
  have E14 : Ext h h14 := M14.ext_from (E10.trans E13) (fun c hc e => by omega)
  simp (disch := omega)
  refine num_c ?_
  simp (disch := omega)
  refine all_c d14 okTop t4n nd4.ft (.inr ⟨s, t4r.2.1⟩) (.inl t4r.2.2.1) (by rw [t4r.1]; decide) fun h15 L4 e15 hL4 hs4 => ?_
  rw [t4r.1] at hL4 hs4
  have hq4 : L4 = Lw := ext_sct (n := 20) hL4 hLw fun k hk => by rw [hs4 k hk, hcd4 k hk, hcd3 k hk, hd0 k hk]
  simp (disch := omega) [hq4]
  refine Remove_c (d14.ext e15) okMid nd.mn nd4.fm (mem4 (by rw [dbk.1]; decide) (by rw [t4r.2.2.2]; decide) (by rw [dbk.2.2.1]; decide) (by rw [dbk.2.2.2]; decide)) fun h16 d16 M16 => ?_
  simp (disch := omega)
  refine num_c ?_
  simp (disch := omega)
  refine Remove_c (x := ψ b) d16 okBase nd.bn (by rw [findI_off (by decide)]; exact nd4.fb) (fun y hy => ?_) fun h17 d17 M17 => ?_
  · unfold offI at hy
    obtain ⟨hy1, hy2⟩ := List.mem_filter.1 hy
    have hy3 : y.nm ≠ nMid := by simpa using hy2
    simp at hy1
    rcases hy1 with e | e | e | e
    · rw [e, dbk.1]; decide
    · rw [e, t4r.2.2.2]; decide
    · exact absurd (by rw [e]; exact nd.mn) hy3
    · rw [e, dbk.2.2.2]; decide
  have nomap : ∀ (g : Heap) (xs' : List Im), WdAt g dw dwm xs' → ∀ b' arr, g[b']? = some (.cells arr u8T) → ¬ b' = dwm := fun g xs' ag b' arr hb e => by
    obtain ⟨M, ⟨es, cl, q1, _⟩, _⟩ := ag.map
    rw [e, q1] at hb
    cases hb
  have w16 : WdAt h16 w wm [f, t2, m, b] := wdMod (w14.ext e15) M16 (by omega) (by omega) (fun x hx c hc e => by have := wfoot x hx c hc; have e' : c = dwm := e; omega) (nomap _ _ (d14.ext e15))
  have w17 : WdAt h17 w wm [f, t2, m, b] := wdMod w16 M17 (by omega) (by omega) (fun x hx c hc e => by have := wfoot x hx c hc; have e' : c = dwm := e; omega) (nomap _ _ d16)
  have E17 : Ext h h17 := M17.ext_from (M16.ext_from (E14.trans e15) (fun c hc e => by have e' : c = dwm := e; omega)) (fun c hc e => by have e' : c = dwm := e; omega)
  simp (disch := omega)
  refine num_c ?_
  simp (disch := omega)
  have wno : ∀ t' : Im, t'.bk = nMid → ∀ y ∈ [f, t', m, b], y.bk ≠ nTop := fun t' e => mem4 (by rw [fbk]; decide) (by rw [e]; decide) (by rw [G.low.mbk]; decide) (by rw [G.low.bk]; decide)
  have wfr : ∀ c, footI t2 c → h.size ≤ c := fr2 t2 (by simp)
  refine Zero0_c (p := 0) (m := 20) w17 okTop n4.tn n4.ft (by omega) (by omega) (wno t2 up2.bk) t2B (fun h' e _ _ hno => absurd ⟨by omega, by omega, by rw [up2.n]; decide⟩ hno) fun t5 h18 _ l5 w18 M18 => ?_
  obtain ⟨F5, G5, ht5⟩ := l5.same
  have t5n : t5.nm = nTop := by rw [ht5]; exact up2.nm
  rw [n4.setT t5n] at w18
  have n5 : N4 f t5 m b := ⟨n4.fn, t5n, n4.mn, n4.bn⟩
  have t5r : t5.n = 20 ∧ t5.bits = 9 ∧ t5.cs = 1 ∧ t5.bk = nMid ∧ t5.S = [s] ∧ t5.B = [] ∧ t5.b = t2.b ∧ t5.m = t2.m := by
    rw [ht5]; exact ⟨up2.n, up2.bits, up2.cs, up2.bk, t2S, t2B, rfl, rfl⟩
  have own5 : t5.isOwn 0 = true := (l5.own 0).2 (.inr ⟨0, by decide, by decide, Nat.zero_div _⟩)
  have few5 : t5.F.length ≤ 20 := rng_few (w18.im t5 (by simp)).cl.map.nodup (rng_wrote l5 up2.cs (by decide) hrng2)
  have hm2 : ∀ b', b' < h.size → ¬ (b' = t2.b ∨ b' = t2.m) := fun b' hb e => by
    rcases e with e | e
    · have := wfr b' (.inl e); omega
    · have := wfr b' (.inr (.inl e)); omega
  have E18 : Ext h h18 := M18.ext_from E17 (fun c hc e => hm2 c hc (.inr e))
  refine num_c ?_
  simp (disch := omega)
  refine Resize1_c w18 okTop t5n n5.ft (wno t5 t5r.2.2.2.1) t5r.2.2.2.2.2.1 ⟨t5r.2.1, t5r.2.2.1⟩ (by rw [t5r.1]; decide) own5 (by omega) fun h19 t6 ht6 w19 M19 => ?_
  obtain ⟨F6, G6, ht6⟩ := ht6
  have t6n : t6.nm = nTop := by rw [ht6]; exact t5n
  rw [n5.setT t6n] at w19
  have n6 : N4 f t6 m b := ⟨n4.fn, t6n, n4.mn, n4.bn⟩
  have t6r : t6.bk = nMid ∧ t6.S = [s] ∧ t6.B = [] ∧ t6.b = t2.b ∧ t6.cs = 1 := by
    rw [ht6]; exact ⟨t5r.2.2.2.1, t5r.2.2.2.2.1, t5r.2.2.2.2.2.1, t5r.2.2.2.2.2.2.1, t5r.2.2.1⟩
  have E19 : Ext h h19 := M19.ext_from E18 (fun c hc e => hm2 c hc (by rw [t5r.2.2.2.2.2.2.1, t5r.2.2.2.2.2.2.2] at e; exact e))
  simp (disch := omega)
  refine num_c ?_
  simp (disch := omega)
  have sn20 : s.n = 20 := by rw [hs]; exact G.up.n
  refine Apply_c w19 okTop t6n n6.ft okS t6r.2.1 (by rw [hs]) (by rw [sn20]; decide) (wno t6 t6r.1) fun h20 m' hm' w20 M20 K1 hK1 => ?_
  obtain ⟨t7, ht7⟩ : ∃ t7, t7 = t6.asWas s m' := ⟨_, rfl⟩
  rw [← ht7] at w20
  have t7n : t7.nm = nTop := by rw [ht7]; exact t6n
  rw [n6.setT t7n] at w20
  have n7 : N4 f t7 m b := ⟨n4.fn, t7n, n4.mn, n4.bn⟩
  have t7b : t7.b = t6.b := by rw [ht7]; rfl
  have t7r : t7.n = 20 ∧ t7.S = [s] ∧ t7.B = [] ∧ t7.bk = nMid ∧ t7.cs = 1 ∧ t7.F = t.F ∧ t7.G = t.G := by
    rw [ht7]
    refine ⟨sn20, t6r.2.1, t6r.2.2.1, t6r.1, t6r.2.2.2.2, ?_, ?_⟩
    · show s.F = t.F; rw [hs]
    · show s.G = t.G; rw [hs]
  rw [show ptrV t6.b = ptrV t7.b by rw [t7b]]
  refine trim0_c (w20.im t7 (by simp)) t7r.2.2.1 fun h21 e21 => ?_
  have w21 := w20.ext e21
  have i21 := w21.im t7 (by simp)
  have k2 := cellOf (i := 2) i21.cells rfl
  rw [t7b, t7r.1, ← sn20] at k2
  refine hK1 _ _ k2 ?_
  rw [show ptrV t6.b = ptrV t7.b by rw [t7b]]
  refine touch0_c i21 t7r.2.2.1 ?_
  have E20 : Ext h h20 := M20.ext_from E19 (fun c hc e => hm2 c hc (.inl (by rw [t6r.2.2.2.1] at e; exact e)))
  have E21 := E20.trans e21
  simp (disch := omega)
  refine num_c ?_
  simp (disch := omega)
  refine all_c w21 okTop t7n n7.ft (.inr ⟨s, t7r.2.1⟩) (.inl t7r.2.2.1) (by rw [t7r.1]; decide) fun h22 L5 e22 hL5 hs5 => ?_
  rw [t7r.1] at hL5 hs5
  have cq7 : ∀ nm k, conts [f, t7, m, b] nm k = conts [f, t2, m, b] nm k := fun nm k => by
    rw [← n4.setT t7n]
    refine conts_cq fun y hy e => ?_
    have : y = t2 := findI_uniq a4.wl.nd (by rw [up2.nm]; exact n4.ft) hy (by rw [e, t7n, up2.nm])
    rw [this]
    exact ⟨by rw [t7n, up2.nm], by rw [t7r.1, up2.n], by rw [t7r.2.2.2.2.1, up2.cs], by rw [t7r.2.2.2.1, up2.bk], by rw [t7r.2.2.2.2.2.1, ht2]; rfl, by rw [t7r.2.2.2.2.2.2, ht2]; rfl⟩
  have hq5 : L5 = Lw := ext_sct (n := 20) hL5 hLw fun k hk => by rw [hs5 k hk, cq7, hw0 k hk]
  simp (disch := omega)
  refine all_c (w21.ext e22) okBase n7.bn n7.fb (.inl G.low.bS) (.inl G.low.bB) (by rw [G.low.bs]; decide) fun h23 L6 e23 hL6 hs6 => ?_
  rw [G.low.bs] at hL6 hs6
  have hs6' : ∀ k, k < 16 → sct L6 k = baseB k := fun k hk => by rw [hs6 k hk, cq7, n4.contF (by decide), cq]; exact G.base k
  have E23 := E21.trans (e22.trans e23)
  simp (disch := omega) [hq5]
  obtain ⟨A, hA⟩ : ∃ A, A = List.replicate 1536 (0 : UInt8) := ⟨_, rfl⟩
  obtain ⟨B, hB⟩ : ∃ B, B = List.replicate 512 (1 : UInt8) := ⟨_, rfl⟩
  obtain ⟨C, hC⟩ : ∃ C, C = List.replicate 6144 (0 : UInt8) := ⟨_, rfl⟩
  have lA : A.length = 1536 := by rw [hA]; exact List.length_replicate
  have lB : B.length = 512 := by rw [hB]; exact List.length_replicate
  have lC : C.length = 6144 := by rw [hC]; exact List.length_replicate
  have hL6e : L6 = A ++ B ++ C := by
    refine ext_sct (n := 16) hL6 (by rw [List.length_append, List.length_append, lA, lB, lC]) fun k hk => ?_
    rw [hs6' k hk, sct_app (m := 4) (by rw [List.length_append, lA, lB])]
    unfold baseB
    by_cases h1 : k < 4
    · rw [if_pos h1, sct_app (m := 3) (by rw [lA])]
      by_cases h2 : k < 3
      · rw [if_pos h2, if_neg (by omega), hA]
        exact (sct_rep (by omega)).symm
      · obtain rfl : k = 3 := by omega
        rw [if_neg h2, if_pos rfl, hB]
        exact (sct_fill (by decide)).symm
    · rw [if_neg h1, if_neg (by omega), hC]
      exact (sct_rep (by omega)).symm
  have byt : ∀ (g : Heap) (bq n : Nat) (L : List UInt8), OwnT u8T 1 g (.slice (some ⟨bq, 0, none⟩) n n) (L.map byteV) → Bytes g (.slice (some ⟨bq, 0, none⟩) n n) L := fun g bq n L o => by
    have hl := o.seg.1
    have := o.part (lo := 0) (hi := n) (c' := n) (by omega) (by omega) (by omega)
    rw [sub_zero, List.drop_zero, List.take_of_length_le (by omega)] at this
    exact this
  have cv : ∀ (g : Heap) (bq n : Nat) (L : List UInt8), OwnT u8T 1 g (.slice (some ⟨bq, 0, none⟩) n n) (L.map byteV) → ∀ (q : Bool) (K0 : Value → Heap → Prop), Hp Tryz.prog q (convert 32 9 (.slice (some ⟨bq, 0, none⟩) n n)) K0 g ⟨⟩ ↔ K0 (str L) g := fun g bq n L o q K0 => Hp_bytesStr (e := 5) (by kernel_rfl) (by kernel_rfl) (by kernel_rfl) (byt g bq n L o)
  refine fill_c (n := 1536) (c := 0) (by omega) fun ba h24 oA e24 _ => ?_
  rw [← hA] at oA
  have kA := cv _ _ _ _ oA
  simp (disch := omega) [kA]
  refine fill_c (n := 512) (c := 1) (by omega) fun bb h25 oB e25 _ => ?_
  rw [← hB] at oB
  have kA2 := cv _ _ _ _ (oA.ext e25)
  have kB := cv _ _ _ _ oB
  simp (disch := omega) [kA2, kB, lA, lB]
  rw [Hp_addStr (by rw [lA, lB]; omega)]
  simp (disch := omega)
  refine fill_c (n := 6144) (c := 0) (by omega) fun bc h26 oC e26 _ => ?_
  rw [← hC] at oC
  have kA3 := cv _ _ _ _ (oA.ext (e25.trans e26))
  have kB3 := cv _ _ _ _ (oB.ext e26)
  have kC := cv _ _ _ _ oC
  simp (disch := omega) [kA3, kB3, kC]
  rw [Hp_addStr (by rw [List.length_append, lA, lB, lC]; omega)]
  simp (disch := omega) [hL6e]
  refine works_c fun h' e => ?_
  simp (disch := omega)
  exact H h' (((E23.trans e24).trans (e25.trans e26)).trans e)
end Go.Proofs.YtoonjlhfgjnnmaaGreat
namespace Go.Proofs.YtoonjlhfgjnnmaaGreat.modelTools
open Go.ChangeShapes Go.WideShapes Go.ChangeAt Go.RowKit Go.Joins Go.Vc

theorem own : ownKnob Tryz.prog.godebug = none := by kernel_rfl
theorem laidOut : laidOutB Tryz.prog = true := by kernel_rfl

set_option maxRecDepth 100000 in
set_option maxHeartbeats 1000000 in
theorem lifted (os : Os) (started : os.Started) (H : Type) (enc : TypeId × Value → H) :
    ReturnsInHanded {} Tryz.checked os 4 .any (Rows.modelToolsSpec.pre6 enc Tryz.prog Tryz.f4 Rows.modelToolsRow.domain false) (Rows.modelToolsSpec.post enc Tryz.prog Tryz.f4 false true false false) := by
  refine returnsInHanded_of_change (C := Tryz.checked) own started (by kernel_rfl) Tryz.func4
    (ChangeSpec.witness6 (enc := enc) (C := Tryz.checked) false ⟨#[], #[.slice none 0 0], []⟩ 8 (by kernel_rfl) (by kernel_rfl) (by kernel_rfl) (by kernel_rfl)) ?_
  intro W base args ds gs before hval0 hW hcnd _
  have hval : ∀ (j : Nat) t v, Tryz.f4.params[j]? = some t → args[j]? = some v → Value.okWide Tryz.prog W .any base t v := hval0
  have hW' := hW
  obtain ⟨p, q, hA0, hV, rfl, hfz, hnd⟩ := hW
  have hA : DataW.TrodAll enc Tryz.prog W 0 (fun _ => true) true Tryz.f4.params.toList args.toList ds p := hA0
  rw [Tryz.params4] at hA hval
  obtain ⟨v0, vs0, d0, ds0, p0, q0, hargs, rfl, rfl, h0, r0⟩ := trodAll_cons hA
  obtain ⟨rfl, rfl, rfl⟩ := trodAll_nil r0
  obtain rfl : args = #[v0] := by cases args; simp_all
  obtain ⟨xs, hxs⟩ := open_steps (hval 0 22 v0 rfl rfl) h0
  refine ((ModelTools_c (h := W.heap) hxs (K := fun v h' => v = .bool true ∧ Ext W.heap h') (fun h' e => ⟨rfl, e⟩)).out W rfl).mono fun e W' ⟨v, he, hs, hv, hx⟩ => ?_
  exact ⟨v, he, hv ▸ law_post laidOut (by kernel_rfl) rfl (tb := 4) (by kernel_rfl) (by kernel_rfl) hW' (fun hg => by rw [hg]; rfl) (below_of hs hx)⟩

theorem proved : Rows.ModelToolsSaid :=
  OpenClaim.holds_of_wide 4 Tryz.f4 rfl rfl rfl rfl rfl rfl rfl ⟨rfl, rfl, rfl, rfl, rfl⟩ rfl rfl rfl rfl rfl (by kernel_rfl) Tryz.func4 (by kernel_rfl)
    (of_decide_eq_true (by kernel_rfl)) (by unfold Func.isWrapper; first | (rw [if_pos (by decide +kernel)]; kernel_rfl) | (rw [if_neg (by decide +kernel)]; exact ⟨rfl, rfl⟩))
    (fun os started H enc _ => lifted os started H enc)
end Go.Proofs.YtoonjlhfgjnnmaaGreat.modelTools
