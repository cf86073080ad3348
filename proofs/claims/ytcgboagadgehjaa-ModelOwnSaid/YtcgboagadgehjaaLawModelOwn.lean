/- What is proved: the law palimpsestlaw25.ModelOwn returns true for every input, and its arguments read as they did. No conditions. -/
import Derived.Test.YtcgboagadgehjaaRows
import Derived.Test.YtcgboagadgehjaaMdlD
set_option linter.unusedSimpArgs false
set_option linter.unusedVariables false
namespace Go.Proofs.Ytcgboagadgehjaa
open Go.Vc
variable {K : Value → Heap → Prop} {h : Heap}

def boT : Nat := 4
def touchL (t : Nat → Bool) : List Value := (List.range 24).map (fun k => .bool (t k))
theorem touchL_set {t : Nat → Bool} {p : Nat} : (touchL t).set p (.bool true) = touchL (fun k => t k || decide (k = p)) := by
  unfold touchL
  apply List.ext_getElem
  · simp
  · intro i h1 h2
    simp only [List.getElem_set, List.getElem_map, List.getElem_range]
    by_cases e : p = i
    · rw [if_pos e]; simp [e]
    · rw [if_neg e]
      have e' : ¬ i = p := fun h => e h.symm
      simp [e']
def anyT (t : Nat → Bool) (cs c : Nat) : Nat → Bool
  | 0 => false
  | j + 1 => anyT t cs c j || (t j && decide (j / cs = c))
theorem anyT_iff {t : Nat → Bool} {cs c : Nat} : ∀ {j : Nat}, anyT t cs c j = true ↔ ∃ i, i < j ∧ t i = true ∧ i / cs = c
  | 0 => by simp [anyT]
  | j + 1 => by
    unfold anyT
    simp only [Bool.or_eq_true, Bool.and_eq_true, decide_eq_true_eq]
    rw [anyT_iff]
    constructor
    · rintro (⟨i, h1, h2⟩ | h)
      · exact ⟨i, by omega, h2⟩
      · exact ⟨j, by omega, h⟩
    · rintro ⟨i, h1, h2⟩
      by_cases e : i = j
      · rw [e] at h2; exact .inr h2
      · exact .inl ⟨i, by omega, h2⟩
def baseC (k : Nat) : List UInt8 := if 2 ≤ k ∧ k < 10 then List.replicate 512 5 else z512
/-- The law's state. -/
structure OS (g : Heap) (w wm bt : Nat) (ws : List Im) (y : Im) (bits cs : Nat) (t : Nat → Bool) : Prop where
  at_ : WdAt g w wm ws
  nm : y.nm = [98]
  find : findI [98] ws = some y
  n : y.n = 24
  bits_ : y.bits = bits
  cs_ : y.cs = cs
  bk : y.bk = [97]
  S : y.S = []
  B : y.B = []
  up : ∀ z ∈ ws, z.bk ≠ [98]
  ot : OwnT boT 1 g (.slice (some ⟨bt, 0, none⟩) 24 24) (touchL t)
  out : ∀ k, k < 24 → t k = false → conts ws [98] k = baseC k
  own : ∀ c, y.isOwn c = true ↔ ∃ j, j < 24 ∧ t j = true ∧ j / cs = c
theorem OS.ext {g g' : Heap} {w wm bt : Nat} {ws : List Im} {y : Im} {bits cs : Nat} {t : Nat → Bool} (a : OS g w wm bt ws y bits cs t) (e : Ext g g') : OS g' w wm bt ws y bits cs t :=
  ⟨a.at_.ext e, a.nm, a.find, a.n, a.bits_, a.cs_, a.bk, a.S, a.B, a.up, a.ot.ext e, a.out, a.own⟩
/-- A write, and what is touched by it. -/
theorem OS.wrote {g g3 : Heap} {w wm bt p q : Nat} {ws : List Im} {y y' : Im} {bits cs : Nat} {t : Nat → Bool} {s : List UInt8} (a : OS g w wm bt ws y bits cs t) (l : Wrote ws y y' p q s) (hp : p + q ≤ 24) (a3 : WdAt g3 w wm (setI y' ws))
    (o3 : OwnT boT 1 g3 (.slice (some ⟨bt, 0, none⟩) 24 24) (touchL (fun k => t k || decide (p ≤ k ∧ k < p + q)))) : OS g3 w wm bt (setI y' ws) y' bits cs (fun k => t k || decide (p ≤ k ∧ k < p + q)) := by
  have hxm := findI_mem a.find
  have hl := l
  obtain ⟨F, G, hy'⟩ := l.same
  have nm' : y'.nm = [98] := by rw [hy']; exact a.nm
  have hf : findI y'.nm ws = some y := by rw [nm']; exact a.find
  refine ⟨a3, nm', ?_, by rw [hy']; exact a.n, by rw [hy']; exact a.bits_, by rw [hy']; exact a.cs_, by rw [hy']; exact a.bk, by rw [hy']; exact a.S, by rw [hy']; exact a.B, fun z hz => ?_, o3, fun k hk ht => ?_, fun c => ?_⟩
  · rw [findI_setI hf, if_pos nm'.symm]
  · rcases mem_setI hz with rfl | ⟨hz, -⟩
    · rw [hy']
      show y.bk ≠ [98]
      rw [a.bk]; decide
    · exact a.up z hz
  · simp only [Bool.or_eq_false_iff, decide_eq_false_iff_not] at ht
    have := hl.cont k
    rw [a.nm, if_neg ht.2] at this
    rw [this]
    exact a.out k hk ht.1
  · rw [hl.own, a.own, a.cs_]
    simp only [Bool.or_eq_true, decide_eq_true_eq]
    constructor
    · rintro (⟨j, h1, h2, h3⟩ | ⟨j, h1, h2, h3⟩)
      · exact ⟨j, h1, .inl h2, h3⟩
      · exact ⟨j, by omega, .inr ⟨h1, h2⟩, h3⟩
    · rintro ⟨j, h1, h2 | h2, h3⟩
      · exact .inl ⟨j, h1, h2, h3⟩
      · exact .inr ⟨j, h2.1, h2.2, h3⟩

set_option maxHeartbeats 4000000 in
theorem ModelOwn_c {n m : Int} {sv : Value} {xs : List Stp} (hn : i64 n) (hm : i64 m) (sp : Sps h sv xs) (H : ∀ h', Ext h h' → K (.bool true) h') : CallsH Try.prog 4 #[.int .i64 n, .int .i64 m, sv] h K ⟨⟩ := by
  refine n4_calls ?_
  unfold n4
  obtain ⟨sa, sc, rfl⟩ := sp.form
  have hxl := sp.len
  unfold i64 at hn hm
  have wk : ∀ (K0 : Value → Heap → Prop), (∀ h', Ext h h' → K0 (.bool true) h') → CallsH Try.prog 6 #[] h K0 ⟨⟩ := fun K0 hk => works_c hk
  by_cases c1 : 9 ≤ n
  case neg =>
    simp (disch := omega)
    exact wk _ fun h' e => H h' e
  by_cases c2 : n ≤ 14
  case neg =>
    simp (disch := omega)
    exact wk _ fun h' e => H h' e
  by_cases c3 : 9 ≤ m
  case neg =>
    simp (disch := omega)
    exact wk _ fun h' e => H h' e
  by_cases c4 : m ≤ 14
  case neg =>
    simp (disch := omega)
    exact wk _ fun h' e => H h' e
  by_cases c5 : xs.length ≤ 12
  case neg =>
    simp (disch := omega)
    exact wk _ fun h' e => H h' e
  clear wk
  obtain ⟨n, rfl⟩ := Int.eq_ofNat_of_zero_le (show 0 ≤ n by omega)
  obtain ⟨m, rfl⟩ := Int.eq_ofNat_of_zero_le (show 0 ≤ m by omega)
  simp (disch := omega)
  refine New_c fun w wm h1 e1 a1 f1 f2 => ?_
  unfold ptrV
  simp (disch := omega)
  rw [show (.int .i64 10240 : Value) = .int .i64 ((20 * 512 : Nat) : Int) from rfl, show (.pointer (some ⟨w, 0, none⟩) : Value) = ptrV w from rfl]
  refine Create_c (n := 20) (bits := m) (bk := []) a1 okN_a (by omega) (by omega) rfl (.inl rfl) (by simp) (fun x h2 hx _ a2 m2 fb fm => ?_) (fun h2 hd _ => absurd rfl (hd 0 (by omega)))
  simp (disch := omega)
  refine num_c ?_
  simp (disch := omega)
  have E2 : Ext h h2 := m2.ext_from e1 (fun b hb e => by have e' : b = wm := e; omega)
  rw [show (.int .i64 4096 : Value) = .int .i64 ((4096 : Nat) : Int) from rfl, show (.int .u8 5 : Value) = byteV 5 from rfl]
  refine fill_c (n := 4096) (by omega) fun bf h3 of e3 ff => ?_
  rw [show byteV 5 = (.int .u8 5 : Value) from rfl]
  obtain ⟨L5, hL5⟩ : ∃ L5, L5 = List.replicate 4096 (5 : UInt8) := ⟨_, rfl⟩
  rw [← hL5] at of
  have l5 : L5.length = 4096 := of.seg.1
  have bL : Bytes h3 (.slice (some ⟨bf, 0, none⟩) 4096 4096) L5 := by
    have := of.part (lo := 0) (hi := 4096) (c' := 4096) (by omega) (by omega) (by omega)
    rw [sub_zero, List.drop_zero, List.take_of_length_le (by omega)] at this
    exact this
  have xnm : x.nm = [97] := by rw [hx]; rfl
  have xn : x.n = 20 := by rw [hx]; rfl
  have xB : x.B = [] := by rw [hx]; rfl
  have xbk : x.bk = [] := by rw [hx]; rfl
  have fa : findI [97] [x] = some x := by unfold findI; rw [if_pos xnm.symm]
  have ab0 : ∀ y ∈ [x], y.bk ≠ x.nm := fun y hy => by
    simp at hy
    subst hy
    rw [xbk, xnm]; decide
  simp (disch := omega)
  rw [← xnm]
  refine Write_c (p := 2) (s := L5) (a2.ext e3) (by rw [xnm]; exact okN_a) (by rw [xnm]; exact fa) (by omega) ab0 xB bL (by omega) (fun h4 e _ _ hno => absurd (by rw [l5, xn]; decide) hno) (fun x' h4 _ hl a4 m4 => ?_)
  rw [l5] at hl
  obtain ⟨F, G, hx'⟩ := hl.same
  have xnm' : x'.nm = [97] := by rw [hx']; exact xnm
  have xbk' : x'.bk = [] := by rw [hx']; exact xbk
  have hset1 : setI x' [x] = [x'] := by
    unfold setI
    simp only [List.map_cons, List.map_nil]
    rw [if_pos (by rw [xnm, xnm'])]
  have hc1 := hl.cont
  rw [hset1] at a4 hc1
  have fa' : findI [97] [x'] = some x' := by unfold findI; rw [if_pos xnm'.symm]
  have E3 : Ext h h4 := m4.ext_from (E2.trans e3) (fun b hb e => by have e' : b = x.m := e; have := e1.size; omega)
  simp (disch := omega)
  refine num_c ?_
  simp (disch := omega)
  rw [show (.int .i64 12288 : Value) = .int .i64 ((24 * 512 : Nat) : Int) from rfl, xnm]
  refine Create_c (n := 24) (bits := n) (bk := [97]) a4 okN_b (by omega) (by omega) ?_ (.inr ⟨okN_a, _, fa'⟩) (by simp) (fun y h5 hy _ a5 m5 gb gm => ?_) (fun h5 hd _ => absurd ?_ (hd 1 (by omega)))
  · unfold findI
    rw [if_neg (by rw [xnm']; decide)]
    rfl
  case refine_3 =>
    show bkOf [x'] [97] = []
    unfold bkOf
    rw [fa']
    exact xbk'
  have ynm : y.nm = [98] := by rw [hy]; rfl
  have fy : findI [98] (y :: [x']) = some y := by unfold findI; rw [if_pos ynm.symm]
  have E5 : Ext h h5 := m5.ext_from E3 (fun b hb e => by have e' : b = wm := e; omega)
  obtain ⟨cs, hcs⟩ : ∃ cs, cs = 2 ^ n / 512 := ⟨_, rfl⟩
  obtain ⟨W, hW⟩ : ∃ W, 2 ^ n = W := ⟨_, rfl⟩
  have hWc : W = cs * 512 := by rw [← hW, hcs]; exact pow_cs (by omega)
  have hWl : 512 ≤ W ∧ W ≤ 16384 := by
    rw [← hW]
    exact ⟨Nat.le_trans (by decide : 512 ≤ 2 ^ 9) (Nat.pow_le_pow_right (by decide) (by omega)), Nat.le_trans (Nat.pow_le_pow_right (by decide) (show n ≤ 14 by omega)) (by decide)⟩
  simp (disch := omega)
  refine num_c ?_
  simp (disch := omega)
  refine (⟨_, rfl⟩ : ∃ f, f = h5.push (.cells (Array.replicate 24 (.bool false)) boT)).elim fun g0 eg => ?_
  have e6 : Ext h5 g0 := by rw [eg]; exact (by repeat' (first | (with_reducible exact Ext.refl _) | (with_reducible assumption) | (with_reducible refine push_ext ?_) | (with_reducible refine hset_ext ?_ ?_) | (with_reducible refine Ext.trans ?_ (by assumption)) | omega | (simp; done) | (simp; omega) | (refine Ext.size ?_) | (refine Nat.le_succ_of_le (Ext.size ?_))))
  have o6 : OwnT boT 1 g0 (.slice (some ⟨h5.size, 0, none⟩) 24 24) (touchL (fun _ => false)) := by
    rw [eg]
    refine .inr ⟨h5.size, 24, 24, [], rfl, by simp [touchL], Nat.le_refl _, ?_, by simp [touchL]⟩
    rw [get_pushed rfl]
    congr 2
  rw [show h5.push (.cells (Array.replicate 24 (.bool false)) 4) = g0 from eg.symm]
  clear eg
  have S0 : OS g0 w wm h5.size (y :: [x']) y n cs (fun _ => false) := by
    have yown : ∀ c, y.isOwn c = false := fun c => by rw [hy]; rfl
    refine ⟨a5.ext e6, ynm, fy, by rw [hy]; rfl, by rw [hy]; rfl, by rw [hy, hcs]; rfl, by rw [hy]; rfl, by rw [hy]; rfl, by rw [hy]; rfl, fun z hz => ?_, o6, fun k hk _ => ?_, fun c => ?_⟩
    · simp at hz
      rcases hz with rfl | rfl
      · rw [hy]; show ([97] : List UInt8) ≠ [98]; decide
      · rw [xbk']; decide
    · have yn : y.n = 24 := by rw [hy]; rfl
      have yb : y.bk = [97] := by rw [hy]; rfl
      unfold conts
      rw [if_pos ynm.symm, yn, if_pos hk, yown, yb, if_neg (by decide)]
      have := hc1 k
      rw [xnm] at this
      rw [this]
      unfold baseC
      have hcx : conts [x] [97] k = z512 := by
        have ox : x.isOwn (k / x.cs) = false := by rw [hx]; rfl
        unfold conts
        rw [if_pos xnm.symm, ox, xbk]
        split <;> rfl
      rw [hcx]
      by_cases h1 : 2 ≤ k ∧ k < 10
      · rw [if_pos h1, if_pos (by omega), hL5]
        have : ∀ j, j * 512 + 512 ≤ 4096 → sct (List.replicate 4096 (5 : UInt8)) j = List.replicate 512 5 := fun j hj => by
          unfold sct
          rw [List.drop_replicate, List.take_replicate]
          congr 1
          omega
        exact this _ (by omega)
      · rw [if_neg h1, if_neg (by omega)]
    · rw [yown]
      simp
  have fym : h.size ≤ y.m := by have := E3.size; omega
  have E6 := E5.trans e6
  have hbt : h.size ≤ h5.size := E5.size
  obtain ⟨bt, hbte⟩ : ∃ bt, bt = h5.size := ⟨_, rfl⟩
  rw [← hbte] at S0 hbt ⊢
  have hn' : n ≤ 14 := by omega
  clear o6 hx hx' hl hc1 a1 a2 a4 a5 m2 m4 m5 of bL hL5 l5 fa fa' ab0 xnm xnm' xbk xbk' xn xB hset1 fb fm gb gm
  refine loopX1 (α := Nat × (List Im × Im) × (Nat → Bool)) (fun a => .int .i64 a.1) (fun a g => a.1 ≤ xs.length ∧ OS g w wm bt a.2.1.1 a.2.1.2 n cs a.2.2 ∧ Ext h g ∧ h.size ≤ a.2.1.2.m) (fun a => xs.length - a.1) (0, (_, y), _) rfl ⟨by simp, S0, E6, fym⟩ ?_
  clear S0 hy fy ynm fym E6 E5 E3 E2
  rintro ⟨i, ⟨ws, y⟩, t⟩ g ⟨hi, S, eg, fy⟩ X hX
  dsimp only at hi S eg fy hX ⊢
  by_cases hin : i < xs.length
  · obtain ⟨ad, sc', hv', -⟩ := (sp.ext eg).cell hin
    obtain ⟨rfl, -⟩ : sa = some ad ∧ sc = sc' := by cases hv'; exact ⟨rfl, rfl⟩
    have ok := (sp.ok _ (List.getElem_mem hin)).ext eg
    have cells : ∀ g', Ext h g' → hcell g' (elt ad (i * 9 + 5)) = some (.int .i64 xs[i].at_) ∧ hcell g' (elt ad (i * 9 + 7)) = some xs[i].bv := fun g' e => by
      obtain ⟨ad2, sc2, hv2, -, d5, -, d7, d8⟩ := (sp.ext e).cell hin
      obtain ⟨rfl, -⟩ : ad = ad2 ∧ sc = sc2 := by cases hv2; exact ⟨rfl, rfl⟩
      exact ⟨d5, d7⟩
    have okB : ∀ g', Ext h g' → Bytes g' xs[i].bv xs[i].b := fun g' e => ((sp.ok _ (List.getElem_mem hin)).ext e).b
    generalize hxi : xs[i] = s at *
    obtain ⟨va, vc, hbv⟩ : ∃ va vc, s.bv = .slice va s.b.length vc := by
      rcases ok.b with ⟨h1, h2⟩ | ⟨ad, c, h1, -, -⟩
      · exact ⟨none, 0, by rw [h1, h2]; rfl⟩
      · exact ⟨some ad, c, h1⟩
    have hat := ok.at_
    unfold i64 at hat
    simp (disch := omega)
    refine JoinN.mk ?_
    refine JoinN.mk ?_
    obtain ⟨c5, c7⟩ := cells g eg
    rw [hbv] at c7
    have hbl := ok.bl
    simp (disch := omega) [c7]
    by_cases hB : s.b.length ≤ 3072
    case neg =>
      simp (disch := omega)
      exact works_c fun h' e => H h' (eg.trans e)
    simp (disch := omega) [c5, c7]
    rw [← hbv]
    refine Write_n S.at_ okN_b S.nm S.find hat S.up S.B (okB g eg) (by omega) (fun g1 e e1 he _ => ?_) (fun y' g1 hc l a2 m2 => ?_)
    · refine num_c ?_
      simp (disch := omega) [he]
      exact hX (i + 1, (ws, y), t) _ _ (by simp) ⟨hin, S.ext e1, eg.trans e1, fy⟩ (by dsimp only; omega)
    · refine num_c ?_
      have hm1 : ∀ b, b < h.size → ¬ b = y.m := fun b hb e => by omega
      have E1 : Ext h g1 := m2.ext_from eg hm1
      obtain ⟨p, hp⟩ := Int.eq_ofNat_of_zero_le hc.2.1
      obtain ⟨q, hq⟩ : ∃ q, q = s.b.length / 512 := ⟨_, rfl⟩
      rw [hp, ← hq] at l
      rw [Int.toNat_natCast] at l
      rw [hp, ← hq, S.n] at hc
      have hqd : ((s.b.length : Nat) : Int) / 512 = (q : Int) := by omega
      obtain ⟨d5, d7⟩ := cells g1 E1
      rw [hbv] at d7
      rw [hp] at d5
      obtain ⟨es, cl, hmap, _⟩ := (S.at_.im y (findI_mem S.find).1).cl.map
      have ot1 := S.ot.mod m2 (fun b hb e => S.ot.neM hb hmap e)
      simp (disch := omega) [d5]
      refine loopX1 (α := Nat) (fun j => .int .i64 ((p + j : Nat) : Int)) (fun j g' => j ≤ q ∧ OwnT boT 1 g' (.slice (some ⟨bt, 0, none⟩) 24 24) (touchL (fun k => t k || decide (p ≤ k ∧ k < p + j))) ∧ Mod (· = bt) g1 g') (fun j => q - j) 0 rfl ⟨by omega, ?_, .refl _ _⟩ ?_
      · rw [show (fun k => t k || decide (p ≤ k ∧ k < p + 0)) = t from funext fun k => by rw [decide_eq_false (by omega), Bool.or_false]]
        exact ot1
      · rintro j g2 ⟨hj, o2, m3⟩ X2 hX2
        have E2 : Ext h g2 := m3.ext_from E1 (fun b hb e => by have e' : b = bt := e; omega)
        obtain ⟨d5, d7⟩ := cells g2 E2
        rw [hbv] at d7
        rw [hp] at d5
        by_cases hjq : j < q
        · have hlen : (touchL (fun k => t k || decide (p ≤ k ∧ k < p + j))).length = 24 := by simp [touchL]
          have hel := o2.elt (i := p + j) (by rw [hlen]; omega)
          simp (disch := omega) [d5, d7, hqd, hel.1, hel.2]
          have o3 := o2.setE (i := p + j) (by rw [hlen]; omega) (u := .bool true)
          rw [touchL_set, show (fun k => (t k || decide (p ≤ k ∧ k < p + j)) || decide (k = p + j)) = (fun k => t k || decide (p ≤ k ∧ k < p + (j + 1))) from funext fun k => by
            rw [Bool.or_assoc]
            congr 1
            rw [Bool.eq_iff_iff]
            simp
            omega] at o3
          refine hX2 (j + 1) _ _ ?_ ⟨by omega, o3, m3.setIn (.inl (by simp [elt_mk]))⟩ (by omega)
          congr 1
        · obtain rfl : j = q := by omega
          simp (disch := omega) [d5, d7, hqd]
          have a3 := a2.modT m3 (t := boT) (ot1.tag rfl) (by decide)
          exact hX (i + 1, (setI y' ws, y'), _) _ _ (by simp) ⟨hin, S.wrote l (by omega) a3 o2, E2, by obtain ⟨F, G, rfl⟩ := l.same; exact fy⟩ (by dsimp only; omega)
  · obtain rfl : i = xs.length := by omega
    simp (disch := omega)
    refine Info0_n S.at_ okN_b S.nm S.find S.S S.B fun g1 e1 => ?_
    unfold piV
    rw [S.bk, S.bits_]
    obtain ⟨N, hN⟩ : ∃ N, N = y.n * 512 := ⟨_, rfl⟩
    rw [← hN]
    simp (disch := omega)
    refine num_c ?_
    simp (disch := omega)
    have S1 := S.ext e1
    have E1 := eg.trans e1
    have hshr := fun (a : Nat) (ha : a < 1000000000) (q : Bool) (tt : Nat) (o1 o2 : Go.Operand) (g : Heap) (K : Value → Heap → Prop) => Hp_shrW (P := Try.prog) (q := q) (t := tt) (x := o1) (y := o2) (k' := .i64) (K := K) (h := g) (a := (a : Int)) hW (by omega) (by omega)
    have hkd : ∀ k : Nat, (((k * 512 : Nat) : Int) / (W : Int)) = ((k / cs : Nat) : Int) := fun k => by
      have h1 : k * 512 / W = k / cs := by rw [hWc]; exact Nat.mul_div_mul_right k cs (by omega)
      rw [← h1, Int.natCast_ediv]
    have hyn := S.n
    have hycs := S.cs_
    have hcs0 : 0 < cs := by omega
    refine loopX1 (α := Nat) (fun k => .int .i64 k) (fun k g' => k ≤ 24 ∧ Ext g1 g') (fun k => 24 - k) 0 rfl ⟨by omega, (by repeat' (first | (with_reducible exact Ext.refl _) | (with_reducible assumption) | (with_reducible refine push_ext ?_) | (with_reducible refine hset_ext ?_ ?_) | (with_reducible refine Ext.trans ?_ (by assumption)) | omega | (simp; done) | (simp; omega) | (refine Ext.size ?_) | (refine Nat.le_succ_of_le (Ext.size ?_))))⟩ ?_
    rintro k g2 ⟨hk, e2⟩ X2 hX2
    have S2 := S1.ext e2
    have E2 := E1.trans e2
    by_cases hk24 : k < 24
    · obtain ⟨KB, hKB⟩ : ∃ KB, KB = k * 512 := ⟨_, rfl⟩
      have hKi : (k : Int) * 512 = (KB : Int) := by omega
      have hs1 := hshr KB (by omega)
      have hd1 := hkd k
      rw [← hKB] at hd1
      obtain ⟨c, hc⟩ : ∃ c, c = k / cs := ⟨_, rfl⟩
      rw [← hc] at hd1
      simp (disch := omega) [hKi, hs1, hd1]
      refine loopX2 (α := Nat) (fun j => .bool (anyT t cs c j)) (fun j => .int .i64 j) (fun j g' => j ≤ 24 ∧ g' = g2) (fun j => 24 - j) 0 ⟨rfl, rfl⟩ ⟨by omega, rfl⟩ ?_
      rintro j g3 ⟨hj, rfl⟩ X3 hX3
      by_cases hj24 : j < 24
      · have hlen : (touchL t).length = 24 := by simp [touchL]
        have hel := S2.ot.elt (i := j) (by rw [hlen]; omega)
        have hget : (touchL t)[j]'(by rw [hlen]; omega) = .bool (t j) := by simp [touchL]
        rw [hget] at hel
        obtain ⟨JB, hJB⟩ : ∃ JB, JB = j * 512 := ⟨_, rfl⟩
        have hJi : (j : Int) * 512 = (JB : Int) := by omega
        have hs2 := hshr JB (by omega)
        have hd2 := hkd j
        obtain ⟨cj, hcj⟩ : ∃ cj, cj = j / cs := ⟨_, rfl⟩
        rw [← hJB, ← hcj] at hd2
        have hst : anyT t cs c (j + 1) = (anyT t cs c j || (t j && decide (cj = c))) := by rw [hcj]; rfl
        have hnx := fun (v : Bool) (hv : v = anyT t cs c (j + 1)) => hX3 (j + 1) (.bool v) (.int .i64 ((j : Int) + 1)) g3 (by rw [hv]) (by simp) ⟨hj24, rfl⟩ (by omega)
        rw [hst] at hnx
        clear hst
        cases hsm : anyT t cs c j with
        | true =>
          rw [hsm] at hnx
          simp (disch := omega)
          exact hnx _ rfl
        | false =>
          rw [hsm] at hnx
          cases htj : t j with
          | false =>
            rw [htj] at hel hnx
            simp (disch := omega) [hel.1]
            exact hnx _ rfl
          | true =>
            rw [htj] at hel hnx
            by_cases hjc : cj = c
            · rw [decide_eq_true hjc] at hnx
              simp (disch := omega) [hel.1, hJi, hs2, hd2, hjc]
              exact hnx _ rfl
            · rw [decide_eq_false hjc] at hnx
              simp (disch := omega) [hel.1, hJi, hs2, hd2, hjc]
              exact hnx _ rfl
      · obtain rfl : j = 24 := by omega
        simp (disch := omega)
        have hcl : c < (24 + cs - 1) / cs := by
          rw [hc]
          have h1 : k / cs * cs ≤ k := Nat.div_mul_le_self k cs
          show k / cs + 1 ≤ _
          rw [Nat.le_div_iff_mul_le hcs0, Nat.add_mul, Nat.one_mul]
          omega
        have hck : c ≤ k := by rw [hc]; exact Nat.div_le_self k cs
        refine Own_n S2.at_ okN_b S2.nm S2.find (by omega) (fun g4 e4 hno => absurd ⟨by omega, by rw [S.n, S.cs_]; omega⟩ hno) (fun g4 i e4 hi _ => ?_)
        obtain rfl : c = i := by omega
        have S4 := S2.ext e4
        simp (disch := omega)
        rw [show (.int .i64 1 : Value) = .int .i64 ((1 : Nat) : Int) from rfl]
        refine Read_n S4.at_ okN_b S4.nm S4.find (by omega) fun b cc L g5 o5 hL hs5 e5 => ?_
        have S5 := S4.ext e5
        simp (disch := omega)
        refine num_c ?_
        refine num_c ?_
        have hown : y.isOwn c = anyT t cs c 24 := by
          rw [Bool.eq_iff_iff, S.own c, anyT_iff]
        have hlen : (touchL t).length = 24 := by simp [touchL]
        have hel := S5.ot.elt (i := k) (by rw [hlen]; omega)
        have hget : (touchL t)[k]'(by rw [hlen]; omega) = .bool (t k) := by simp [touchL]
        rw [hget] at hel
        rw [hown]
        have hfin := hX2 (k + 1) (.int .i64 ((k : Int) + 1)) g5 (by simp) ⟨by omega, (e2.trans e4).trans e5⟩ (by omega)
        have hl0 : L.length = 512 := by omega
        have h0 : L[0]? = (conts ws [98] k)[0]? := by
          have h1 := hs5 0 (by omega)
          rw [Nat.add_zero] at h1
          rw [← h1, sct_get (by omega)]
        have c0 : hcell g5 (elt ⟨b, 0, none⟩ 0) = some (byteV (L[0]'(by omega))) := by
          have h1 := (o5.elt (i := 0) (by rw [List.length_map, hl0]; omega)).1
          rw [h1, List.getElem_map]
        rw [elt_zero] at c0
        cases htk : t k with
        | true =>
          rw [htk] at hel
          cases hsm : anyT t cs c 24 <;> (simp (disch := omega) [hel.1]; exact hfin)
        | false =>
          rw [htk] at hel
          have hb := S.out k hk24 htk
          rw [hb] at h0
          by_cases h1 : 2 ≤ k ∧ k < 10
          · have hL0 : L[0]'(by omega) = 5 := by
              unfold baseC at h0
              rw [if_pos h1, List.getElem?_replicate, if_pos (by omega)] at h0
              exact (List.getElem?_eq_some_iff.1 h0).2
            rw [hL0, show byteV 5 = .int .u8 5 from rfl] at c0
            cases hsm : anyT t cs c 24 <;> (simp (disch := omega) [hel.1, c0]; exact hfin)
          · have hL0 : L[0]'(by omega) = 0 := by
              unfold baseC z512 at h0
              rw [if_neg h1, List.getElem?_replicate, if_pos (by omega)] at h0
              exact (List.getElem?_eq_some_iff.1 h0).2
            rw [hL0, show byteV 0 = .int .u8 0 from rfl] at c0
            by_cases h2 : 2 ≤ k
            · have h3 : ¬ k < 10 := fun h => h1 ⟨h2, h⟩
              cases hsm : anyT t cs c 24 <;> (simp (disch := omega) [hel.1, c0]; exact hfin)
            · cases hsm : anyT t cs c 24 <;> (simp (disch := omega) [hel.1, c0]; exact hfin)
    · obtain rfl : k = 24 := by omega
      obtain ⟨C, hC⟩ : ∃ C, C = (24 + cs - 1) / cs := ⟨_, rfl⟩
      have hCb : C ≤ 24 + cs - 1 := by rw [hC]; exact Nat.div_le_self _ _
      have hq : ((12288 : Int) + (W : Int) - 1) / (W : Int) = (C : Int) := by
        have h1 : (12288 + W - 1) / W = C := by
          have e1 : 12288 + W - 1 = (24 + cs - 1) * 512 + 511 := by omega
          rw [e1, hWc, hC, Nat.mul_comm cs 512, ← Nat.div_div_eq_div_mul]
          congr 1
          omega
        have h2 : (12288 : Int) + (W : Int) - 1 = ((12288 + W - 1 : Nat) : Int) := by omega
        rw [h2, ← h1, Int.natCast_ediv]
      have hsl := fun (q : Bool) (tt : Nat) (o1 o2 : Go.Operand) (g : Heap) (K : Value → Heap → Prop) => Hp_shlW (P := Try.prog) (q := q) (t := tt) (x := o1) (y := o2) (k' := .i64) (K := K) (h := g) (a := 1) hW (by omega) (by omega) (by omega)
      have hsr := fun (q : Bool) (tt : Nat) (o1 o2 : Go.Operand) (g : Heap) (K : Value → Heap → Prop) => Hp_shrW (P := Try.prog) (q := q) (t := tt) (x := o1) (y := o2) (k' := .i64) (K := K) (h := g) (a := (12288 : Int) + (W : Int) - 1) hW (by omega) (by omega)
      simp (disch := omega) [hsl, hsr, hq]
      refine Own_n S2.at_ okN_b S2.nm S2.find (by omega) (fun g4 e4 hno => ?_) (fun g4 i e4 hi hlt => absurd hlt (by rw [S.n, S.cs_, ← hC]; omega))
      simp (disch := omega)
      refine num_c ?_
      simp (disch := omega)
      refine works_c fun h' e => ?_
      simp (disch := omega)
      exact H h' ((E2.trans e4).trans e)
end Go.Proofs.Ytcgboagadgehjaa
namespace Go.Proofs.Ytcgboagadgehjaa.modelOwn
open Go.ChangeShapes Go.WideShapes Go.ChangeAt Go.RowKit Go.Joins Go.Vc

theorem own : ownKnob Try.prog.godebug = none := by kernel_rfl
theorem laidOut : laidOutB Try.prog = true := by kernel_rfl

set_option maxRecDepth 100000 in
set_option maxHeartbeats 1000000 in
theorem lifted (os : Os) (started : os.Started) (H : Type) (enc : TypeId × Value → H) :
    ReturnsInHanded {} Try.checked os 4 .any (Rows.modelOwnSpec.pre6 enc Try.prog Try.f4 Rows.modelOwnRow.domain false) (Rows.modelOwnSpec.post enc Try.prog Try.f4 false true false false) := by
  refine returnsInHanded_of_change (C := Try.checked) own started (by kernel_rfl) Try.func4
    (ChangeSpec.witness6 (enc := enc) (C := Try.checked) false ⟨#[], #[.int .i64 0, .int .i64 0, .slice none 0 0], []⟩ 8 (by kernel_rfl) (by kernel_rfl) (by kernel_rfl) (by kernel_rfl)) ?_
  intro W base args ds gs before hval0 hW hcnd _
  have hval : ∀ (j : Nat) t v, Try.f4.params[j]? = some t → args[j]? = some v → Value.okWide Try.prog W .any base t v := hval0
  have hW' := hW
  obtain ⟨p, q, hA0, hV, rfl, hfz, hnd⟩ := hW
  have hA : DataW.TrodAll enc Try.prog W 0 (fun _ => true) true Try.f4.params.toList args.toList ds p := hA0
  rw [Try.params4] at hA hval
  obtain ⟨v0, vs0, d0, ds0, p0, q0, hargs, rfl, rfl, h0, r0⟩ := trodAll_cons hA
  obtain ⟨v1, vs1, d1, ds1, p1, q1, rfl, rfl, rfl, h1, r1⟩ := trodAll_cons r0
  obtain ⟨v2, vs2, d2, ds2, p2, q2, rfl, rfl, rfl, h2, r2⟩ := trodAll_cons r1
  obtain ⟨rfl, rfl, rfl⟩ := trodAll_nil r2
  obtain rfl : args = #[v0, v1, v2] := by cases args; simp_all
  obtain ⟨n0, hn0, r0'⟩ := (Laid.top (hval 0 3 v0 rfl rfl) h0 (by kernel_rfl)).int (k := .i64) (by kernel_rfl)
  obtain rfl : v0 = .int .i64 n0 := by simpa using hn0
  obtain ⟨n1, hn1, r1'⟩ := (Laid.top (hval 1 3 v1 rfl rfl) h1 (by kernel_rfl)).int (k := .i64) (by kernel_rfl)
  obtain rfl : v1 = .int .i64 n1 := by simpa using hn1
  obtain ⟨xs, hxs⟩ := open_steps (hval 2 22 v2 rfl rfl) h2
  refine ((ModelOwn_c (h := W.heap) (i64_of r0') (i64_of r1') hxs (K := fun v h' => v = .bool true ∧ Ext W.heap h') (fun h' e => ⟨rfl, e⟩)).out W rfl).mono fun e W' ⟨v, he, hs, hv, hx⟩ => ?_
  exact ⟨v, he, hv ▸ law_post laidOut (by kernel_rfl) rfl (tb := 4) (by kernel_rfl) (by kernel_rfl) hW' (fun hg => by rw [hg]; rfl) (below_of hs hx)⟩

theorem proved : Rows.ModelOwnSaid :=
  OpenClaim.holds_of_wide 4 Try.f4 rfl rfl rfl rfl rfl rfl rfl ⟨rfl, rfl, rfl, rfl, rfl⟩ rfl rfl rfl rfl rfl (by kernel_rfl) Try.func4 (by kernel_rfl)
    (of_decide_eq_true (by kernel_rfl)) (by unfold Func.isWrapper; first | (rw [if_pos (by decide +kernel)]; kernel_rfl) | (rw [if_neg (by decide +kernel)]; exact ⟨rfl, rfl⟩))
    (fun os started H enc _ => lifted os started H enc)
end Go.Proofs.Ytcgboagadgehjaa.modelOwn
