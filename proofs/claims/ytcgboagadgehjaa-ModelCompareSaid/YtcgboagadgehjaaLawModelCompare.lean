/- What is proved: the law palimpsestlaw25.ModelCompare returns true for every input, and its arguments read as they did. No conditions. -/
import Derived.Test.YtcgboagadgehjaaRows
import Derived.Test.YtcgboagadgehjaaMdlD
set_option linter.unusedSimpArgs false
set_option linter.unusedVariables false
namespace Go.Proofs.Ytcgboagadgehjaa
open Go.Vc
variable {K : Value → Heap → Prop} {h : Heap}

set_option maxHeartbeats 4000000 in
theorem ModelCompare_c {n m : Int} {sv : Value} {xs : List Stp} (hn : i64 n) (hm : i64 m) (sp : Sps h sv xs) (H : ∀ h', Ext h h' → K (.bool true) h') : CallsH Try.prog 3 #[.int .i64 n, .int .i64 m, sv] h K ⟨⟩ := by
  refine n3_calls ?_
  unfold n3
  obtain ⟨sa, sc, rfl⟩ := sp.form
  have hxl := sp.len
  unfold i64 at hn hm
  have wk : ∀ (K0 : Value → Heap → Prop), (∀ h', Ext h h' → K0 (.bool true) h') → CallsH Try.prog 6 #[] h K0 ⟨⟩ := fun K0 hk => works_c hk
  by_cases c1 : 0 ≤ n
  case neg =>
    simp (disch := omega)
    exact wk _ fun h' e => H h' e
  by_cases c2 : 0 ≤ m
  case neg =>
    simp (disch := omega)
    exact wk _ fun h' e => H h' e
  by_cases c3 : n ≤ 40
  case neg =>
    simp (disch := omega)
    exact wk _ fun h' e => H h' e
  by_cases c4 : m ≤ 40
  case neg =>
    simp (disch := omega)
    exact wk _ fun h' e => H h' e
  by_cases c5 : xs.length ≤ 12
  case neg =>
    simp (disch := omega)
    exact wk _ fun h' e => H h' e
  clear wk
  obtain ⟨n, rfl⟩ := Int.eq_ofNat_of_zero_le c1
  obtain ⟨m, rfl⟩ := Int.eq_ofNat_of_zero_le c2
  simp (disch := omega)
  refine New_c fun w wm h1 e1 a1 f1 f2 => ?_
  unfold ptrV
  simp (disch := omega)
  rw [show (n : Int) * 512 = ((n * 512 : Nat) : Int) by omega, show (.pointer (some ⟨w, 0, none⟩) : Value) = ptrV w from rfl]
  refine Create_c (n := n) (bits := 9) (bk := []) a1 okN_a (by omega) (by omega) rfl (.inl rfl) (by simp) (fun x h2 hx _ a2 m2 fb fm => ?_) (fun h2 hd _ => absurd rfl (hd 0 (by omega)))
  simp (disch := omega)
  refine num_c ?_
  simp (disch := omega)
  have xnm : x.nm = [97] := by rw [hx]; rfl
  rw [show (m : Int) * 512 = ((m * 512 : Nat) : Int) by omega]
  refine Create_c (n := m) (bits := 10) (bk := []) a2 okN_b (by omega) (by omega) ?_ (.inl rfl) (by simp) (fun y h3 hy _ a3 m3 gb gm => ?_) (fun h3 hd _ => absurd rfl (hd 0 (by omega)))
  · unfold findI
    rw [if_neg (by rw [xnm]; decide)]
    rfl
  simp (disch := omega)
  refine num_c ?_
  simp (disch := omega)
  have mk : ∀ (g : Heap) (K0 : Value → Heap → Prop), (∀ g', OwnT u8T 1 g' (.slice (some ⟨g.size, 0, none⟩) 20480 20480) ((List.replicate (40 * 512) (0 : UInt8)).map byteV) → Ext g g' → g'.size = g.size + 1 → K0 (.slice (some ⟨g.size, 0, none⟩) 20480 20480) g') → Hp Try.prog false (Go.Instr.makeSlice 29 (.int .i64 20480) (.int .i64 20480)) K0 g ⟨⟩ := fun g K0 hk => by
    rw [Hp_make (e := u8T) (s := 1) (by_ := 1) (z := .int .u8 0) (by kernel_rfl) (by kernel_rfl) rfl rfl (by omega) (by omega) (by omega) (by omega)]
    refine ValT_iff.2 (ValT_iff.2 ?_)
    have o := own_make (h := g) (N := 20480)
    rw [← List.toArray_replicate] at o
    exact hk _ o (push_ext (.refl _)) (Array.size_push ..)
  refine JoinN_in2 (fun va vb g => ∃ ba bb, va = .slice (some ⟨ba, 0, none⟩) 20480 20480 ∧ vb = .slice (some ⟨bb, 0, none⟩) 20480 20480 ∧ OwnT u8T 1 g va ((List.replicate (40 * 512) (0 : UInt8)).map byteV) ∧ OwnT u8T 1 g vb ((List.replicate (40 * 512) (0 : UInt8)).map byteV) ∧ Ext h3 g ∧ ba ≠ bb ∧ h3.size ≤ ba ∧ h3.size ≤ bb) (fun kk hkk => ⟨?_, ?_⟩) (fun va vb g hv => ?_)
  · refine mk _ _ fun g1 o1 e4 z1 => ?_
    refine mk _ _ fun g2 o2 e5 z2 => ?_
    exact hkk _ _ _ ⟨_, _, rfl, rfl, o1.ext e5, o2, e4.trans e5, by omega, by omega, by omega⟩
  · refine mk _ _ fun g1 o1 e4 z1 => ?_
    refine mk _ _ fun g2 o2 e5 z2 => ?_
    exact hkk _ _ _ ⟨_, _, rfl, rfl, o2, o1.ext e5, e4.trans e5, by omega, by omega, by omega⟩
  obtain ⟨ba, bb, rfl, rfl, oa, ob, e4, hab, hba, hbb⟩ := hv
  have a4 := a3.ext e4
  have ynm : y.nm = [98] := by rw [hy]; rfl
  have xF : x.F = [] ∧ x.S = [] ∧ x.B = [] := by rw [hx]; exact ⟨rfl, rfl, rfl⟩
  have yF : y.F = [] ∧ y.S = [] ∧ y.B = [] := by rw [hy]; exact ⟨rfl, rfl, rfl⟩
  have xn : x.n = n := by rw [hx]; rfl
  have yn : y.n = m := by rw [hy]; rfl
  have xb : x.bk = [] := by rw [hx]; rfl
  have yb : y.bk = [] := by rw [hy]; rfl
  have cz : ∀ (nm : List UInt8) (k : Nat), conts (y :: [x]) nm k = z512 := fun nm k => by
    have ox : x.isOwn (k / x.cs) = false := by rw [hx]; rfl
    have oy : y.isOwn (k / y.cs) = false := by rw [hy]; rfl
    have bx : conts [x] nm k = z512 := by
      unfold conts
      split
      · split
        · rw [ox]; rfl
        · rfl
      · rfl
    unfold conts
    split
    · split
      · rw [oy]
        have : y.bk = [] := by rw [hy]; rfl
        rw [this]
        show conts [x] [] k = z512
        unfold conts
        rw [if_neg (by rw [xnm]; decide)]
        rfl
      · rfl
    · exact bx
  have a5 := a4.bar (Z := [ba, bb]) (fun z hz => by
    simp at hz
    rcases hz with rfl | rfl
    · exact ⟨yF.1, yF.2.1⟩
    · exact ⟨xF.1, xF.2.1⟩) (fun b hb => by
    simp at hb
    rcases hb with rfl | rfl
    · exact oa.lt rfl
    · exact ob.lt rfl)
  have cz5 : ∀ (nm : List UInt8) (k : Nat), conts (List.map (barI [ba, bb]) (y :: [x])) nm k = z512 := fun nm k => by rw [conts_bar, cz]
  have S0 : LS g w wm ba bb n m (List.map (barI [ba, bb]) (y :: [x])) (barI [ba, bb] x) (barI [ba, bb] y) (List.replicate (40 * 512) 0) (List.replicate (40 * 512) 0) := by
    refine ⟨a5, ⟨okN_a, xnm, ?_, xn, xF.2.2⟩, ⟨okN_b, ynm, ?_, yn, yF.2.2⟩, fun z hz => ?_, Plain.zero (cz5 _), Plain.zero (cz5 _), oa, ob, fun z hz => ?_⟩
    · rw [findI_bar]
      unfold findI
      rw [if_neg (by rw [ynm]; decide)]
      unfold findI
      rw [if_pos xnm.symm]; rfl
    · rw [findI_bar]
      unfold findI
      rw [if_pos ynm.symm]; rfl
    · simp at hz
      rcases hz with rfl | rfl
      · exact yb
      · exact xb
    · simp at hz
      rcases hz with rfl | rfl
      · exact ⟨by simp [barI], by simp [barI]⟩
      · exact ⟨by simp [barI], by simp [barI]⟩
  have E3 : Ext h h3 := (m3.ext_from (m2.ext_from e1 (fun b hb e => by have e' : b = wm := e; omega)) (fun b hb e => by have e' : b = wm := e; omega))
  have fx0 : h.size ≤ (barI [ba, bb] x).m := by show h.size ≤ x.m; have := e1.size; omega
  have fy0 : h.size ≤ (barI [ba, bb] y).m := by show h.size ≤ y.m; have := (m2.ext_from e1 (fun b hb e => by have e' : b = wm := e; omega)).size; omega
  have hba0 : h.size ≤ ba := Nat.le_trans E3.size hba
  have hbb0 : h.size ≤ bb := Nat.le_trans E3.size hbb
  clear cz cz5 a5 xF yF xn yn xb yb xnm ynm a4 oa ob hx hy a1 a2 a3 fb fm gb gm
  refine loopX1 (α := Nat × (List Im × Im × Im) × (List UInt8 × List UInt8)) (fun a => .int .i64 a.1) (fun a g => a.1 ≤ xs.length ∧ LS g w wm ba bb n m a.2.1.1 a.2.1.2.1 a.2.1.2.2 a.2.2.1 a.2.2.2 ∧ Ext h g ∧ h.size ≤ a.2.1.2.1.m ∧ h.size ≤ a.2.1.2.2.m) (fun a => xs.length - a.1) (0, (_, _, _), (_, _)) rfl ⟨by simp, S0, E3.trans e4, fx0, fy0⟩ ?_
  clear S0
  rintro ⟨i, ⟨ws, x, y⟩, ⟨A, B⟩⟩ g ⟨hi, S, eg, fx, fy⟩ X hX
  dsimp only at hi S eg fx fy hX ⊢
  by_cases hin : i < xs.length
  · obtain ⟨ad, sc', hv', c0, c5', c6, c7, c8⟩ := (sp.ext eg).cell hin
    obtain ⟨rfl, -⟩ : sa = some ad ∧ sc = sc' := by cases hv'; exact ⟨rfl, rfl⟩
    have ok := (sp.ok _ (List.getElem_mem hin)).ext eg
    have cells : ∀ g', Ext h g' → hcell g' (elt ad (i * 9 + 5)) = some (.int .i64 xs[i].at_) ∧ hcell g' (elt ad (i * 9 + 7)) = some xs[i].bv ∧ hcell g' (elt ad (i * 9 + 8)) = some (.bool xs[i].yes) := fun g' e => by
      obtain ⟨ad2, sc2, hv2, -, d5, -, d7, d8⟩ := (sp.ext e).cell hin
      obtain ⟨rfl, -⟩ : ad = ad2 ∧ sc = sc2 := by cases hv2; exact ⟨rfl, rfl⟩
      exact ⟨d5, d7, d8⟩
    have okB : ∀ g', Ext h g' → Bytes g' xs[i].bv xs[i].b := fun g' e => ((sp.ok _ (List.getElem_mem hin)).ext e).b
    generalize hxi : xs[i] = t at *
    obtain ⟨va, vc, hbv⟩ : ∃ va vc, t.bv = .slice va t.b.length vc := by
      rcases ok.b with ⟨h1, h2⟩ | ⟨ad, c, h1, -, -⟩
      · exact ⟨none, 0, by rw [h1, h2]; rfl⟩
      · exact ⟨some ad, c, h1⟩
    have hat := ok.at_
    unfold i64 at hat
    simp (disch := omega)
    refine JoinN.mk ?_
    refine JoinN.mk ?_
    obtain ⟨c5, c7, c8⟩ := cells g eg
    rw [hbv] at c7
    have hbl := ok.bl
    simp (disch := omega) [c7]
    by_cases hB : t.b.length ≤ 3072
    case neg =>
      simp (disch := omega)
      exact works_c fun h' e => H h' (eg.trans e)
    simp (disch := omega)
    refine JoinN_in0 (fun g' => ∃ ws' x' A', LS g' w wm ba bb n m ws' x' y A' B ∧ Ext h g' ∧ h.size ≤ x'.m) (fun kk hkk => ?_) (fun g' hg' => ?_)
    · simp (disch := omega) [c5, c7]
      rw [← hbv]
      refine WriteF_c S.at_ S.fx S.fl hat (okB g eg) (by omega) (fun g1 e e1 he => ?_) (fun x' g1 hc l a2 m2 => ?_)
      · refine num_c ?_
        simp (disch := omega) [he]
        exact hkk _ ⟨ws, x, A, ⟨S.at_.ext e1, S.fx, S.fy, S.fl, S.pa, S.pb, S.oa.ext e1, S.ob.ext e1, S.za⟩, eg.trans e1, fx⟩
      · refine num_c ?_
        have hm1 : ∀ b, b < h.size → ¬ b = x.m := fun b hb e => by omega
        have E1 : Ext h g1 := m2.ext_from eg hm1
        obtain ⟨d5, d7, d8⟩ := cells g1 E1
        rw [hbv] at d7
        obtain ⟨p, hp⟩ := Int.eq_ofNat_of_zero_le hc.2.1
        rw [hp] at d5 l
        rw [Int.toNat_natCast] at l
        obtain ⟨q, hq⟩ : ∃ q, q = t.b.length / 512 := ⟨_, rfl⟩
        rw [← hq] at l hc
        obtain ⟨P, hP⟩ : ∃ P, P = p * 512 := ⟨_, rfl⟩
        have hPi : (p : Int) * 512 = (P : Int) := by omega
        simp (disch := omega) [d5, d7, hPi]
        obtain ⟨es, cl, hmap, _⟩ := (S.at_.im x (findI_mem S.fx.find).1).cl.map
        have oa1 := S.oa.mod m2 (fun b hb e => S.oa.neM hb hmap e)
        rw [← hbv]
        refine Hp_copyAt (lo := P) (m := 20480 - P) (by kernel_rfl) oa1 (by omega) (okB g1 E1) fun g2 o2 m3 => ?_
        rw [List.take_of_length_le (by omega)] at o2
        rw [hP] at o2
        have hs : t.b.length = q * 512 := by omega
        exact hkk _ ⟨_, x', _, S.wrA hab l hs (by omega) a2 m2 o2 m3, m3.ext_from E1 (fun b hb e => by have e' : b = ba := e; omega), by obtain ⟨F, G, rfl⟩ := l.same; exact fx⟩
    · obtain ⟨ws, x, A, S, eg, fx⟩ := hg'
      obtain ⟨c5, c7, c8⟩ := cells g' eg
      rw [hbv] at c7
      cases hyes : t.yes with
      | true =>
        rw [hyes] at c8
        simp (disch := omega) [c8]
        exact hX (i + 1, (ws, x, y), (A, B)) _ _ (by simp) ⟨hin, S, eg, fx, fy⟩ (by dsimp only; omega)
      | false =>
        rw [hyes] at c8
        simp (disch := omega) [c8, c5, c7]
        rw [← hbv]
        refine WriteF_c S.at_ S.fy S.fl hat (okB g' eg) (by omega) (fun g1 e e1 he => ?_) (fun x' g1 hc l a2 m2 => ?_)
        · simp (disch := omega)
          refine num_c ?_
          simp (disch := omega) [he]
          exact hX (i + 1, (ws, x, y), (A, B)) _ _ (by simp) ⟨hin, ⟨S.at_.ext e1, S.fx, S.fy, S.fl, S.pa, S.pb, S.oa.ext e1, S.ob.ext e1, S.za⟩, eg.trans e1, fx, fy⟩ (by dsimp only; omega)
        · simp (disch := omega)
          refine num_c ?_
          have hm1 : ∀ b, b < h.size → ¬ b = y.m := fun b hb e => by omega
          have E1 : Ext h g1 := m2.ext_from eg hm1
          obtain ⟨d5, d7, d8⟩ := cells g1 E1
          rw [hbv] at d7
          obtain ⟨p, hp⟩ := Int.eq_ofNat_of_zero_le hc.2.1
          rw [hp] at d5 l
          rw [Int.toNat_natCast] at l
          obtain ⟨q, hq⟩ : ∃ q, q = t.b.length / 512 := ⟨_, rfl⟩
          rw [← hq] at l hc
          obtain ⟨P, hP⟩ : ∃ P, P = p * 512 := ⟨_, rfl⟩
          have hPi : (p : Int) * 512 = (P : Int) := by omega
          simp (disch := omega) [d5, d7, hPi]
          obtain ⟨es, cl, hmap, _⟩ := (S.at_.im y (findI_mem S.fy.find).1).cl.map
          have oa1 := S.ob.mod m2 (fun b hb e => S.ob.neM hb hmap e)
          rw [← hbv]
          refine Hp_copyAt (lo := P) (m := 20480 - P) (by kernel_rfl) oa1 (by omega) (okB g1 E1) fun g2 o2 m3 => ?_
          rw [List.take_of_length_le (by omega)] at o2
          rw [hP] at o2
          have hs : t.b.length = q * 512 := by omega
          simp (disch := omega)
          exact hX (i + 1, (setI x' ws, x, x'), (A, over B (p * 512) t.b)) _ _ (by simp) ⟨hin, S.wrB hab l hs (by omega) a2 m2 o2 m3, m3.ext_from E1 (fun b hb e => by have e' : b = bb := e; omega), fx, by obtain ⟨F, G, rfl⟩ := l.same; exact fy⟩ (by dsimp only; omega)
  · obtain rfl : i = xs.length := by omega
    simp (disch := omega)
    have hz : ∀ k, ¬ k < max n m → conts ws [97] k = z512 ∧ conts ws [98] k = z512 := fun k hk => by
      have h1 := (chain_step (k := k) S.at_.wl.nd S.at_.wl.ne S.at_.wl.ch S.fx.find).1
      have h2 := (chain_step (k := k) S.at_.wl.nd S.at_.wl.ne S.at_.wl.ch S.fy.find).1
      have xn := S.fx.n_
      have yn := S.fy.n_
      rw [if_neg (by omega)] at h1
      rw [if_neg (by omega)] at h2
      exact ⟨h1, h2⟩
    have hAB := S.pa.same S.pb
    have cvA : ∀ (q : Bool) (K0 : Value → Heap → Prop) (g' : Heap), Ext g g' → (Hp Try.prog q (convert 29 9 (.slice (some ⟨ba, 0, none⟩) 20480 20480)) K0 g' ⟨⟩ ↔ K0 (str A) g') := fun q K0 g' e => by
      have := (S.oa.ext e).part (lo := 0) (hi := 20480) (c' := 20480) (by omega) (by omega) (by omega)
      rw [sub_zero, List.drop_zero, List.take_of_length_le (by rw [S.pa.len]; omega)] at this
      exact Hp_bytesStr (e := 5) (by kernel_rfl) (by kernel_rfl) (by kernel_rfl) this
    have cvB : ∀ (q : Bool) (K0 : Value → Heap → Prop) (g' : Heap), Ext g g' → (Hp Try.prog q (convert 29 9 (.slice (some ⟨bb, 0, none⟩) 20480 20480)) K0 g' ⟨⟩ ↔ K0 (str B) g') := fun q K0 g' e => by
      have := (S.ob.ext e).part (lo := 0) (hi := 20480) (c' := 20480) (by omega) (by omega) (by omega)
      rw [sub_zero, List.drop_zero, List.take_of_length_le (by rw [S.pb.len]; omega)] at this
      exact Hp_bytesStr (e := 5) (by kernel_rfl) (by kernel_rfl) (by kernel_rfl) this
    refine CompareF_c S.at_ S.fx S.fy (fun g1 e1 hs1 => ?_) (fun g1 k1 e1 hk1 hne1 hlt1 => ?_)
    · simp (disch := omega)
      refine CompareF_c (S.at_.ext e1) S.fy S.fx (fun g2 e2 hs2 => ?_) (fun g2 k2 e2 hk2 hne2 hlt2 => absurd (hs1 k2 (by omega)).symm hne2)
      have E2 := e1.trans e2
      simp (disch := omega)
      refine CompareF_c (S.at_.ext E2) S.fx S.fx (fun g3 e3 hs3 => ?_) (fun g3 k3 e3 hk3 hne3 hlt3 => absurd rfl hne3)
      have E3 := E2.trans e3
      have hAB' : A = B := hAB.2 fun k hk => by
        by_cases h1 : k < max n m
        · exact hs1 k h1
        · rw [(hz k h1).1, (hz k h1).2]
      have c1 := fun (q : Bool) (K0 : Value → Heap → Prop) => cvA q K0 g3 E3
      have c2 := fun (q : Bool) (K0 : Value → Heap → Prop) => cvB q K0 g3 E3
      simp (disch := omega)
      refine num_c ?_
      simp (disch := omega)
      refine num_c ?_
      simp (disch := omega)
      refine num_c ?_
      simp (disch := omega) [c1, c2, hAB']
      refine works_c fun h' e => ?_
      simp (disch := omega)
      exact H h' ((eg.trans E3).trans e)
    · have hneA : A ≠ B := fun e => hne1 (hAB.1 e k1 (by omega))
      simp (disch := omega)
      refine CompareF_c (S.at_.ext e1) S.fy S.fx (fun g2 e2 hs2 => absurd (hs2 k1 (by omega)).symm hne1) (fun g2 k2 e2 hk2 hne2 hlt2 => ?_)
      have hk12 : k2 = k1 := by
        by_cases h1 : k2 < k1
        · exact absurd (hlt1 k2 h1).symm hne2
        · by_cases h2 : k1 < k2
          · exact absurd (hlt2 k1 h2).symm hne1
          · omega
      clear hlt2 hne2 hk2
      subst hk12
      have E2 := e1.trans e2
      simp (disch := omega)
      refine CompareF_c (S.at_.ext E2) S.fx S.fx (fun g3 e3 hs3 => ?_) (fun g3 k3 e3 hk3 hne3 hlt3 => absurd rfl hne3)
      have E3 := E2.trans e3
      have c1 := fun (q : Bool) (K0 : Value → Heap → Prop) => cvA q K0 g3 E3
      have c2 := fun (q : Bool) (K0 : Value → Heap → Prop) => cvB q K0 g3 E3
      obtain ⟨P, hP⟩ : ∃ P, P = k2 * 512 := ⟨_, rfl⟩
      have hPi : 512 * (k2 : Int) = (P : Int) := by omega
      simp (disch := omega)
      refine num_c ?_
      simp (disch := omega)
      refine num_c ?_
      simp (disch := omega)
      refine num_c ?_
      have hk40 : k2 < 40 := by omega
      have lA : A.length = 20480 := S.pa.len
      have lB : B.length = 20480 := S.pb.len
      have pA : ∀ (q : Bool) (K0 : Value → Heap → Prop), Hp Try.prog q (convert 29 9 (.slice (some ⟨ba, 0, none⟩) P 20480)) K0 g3 ⟨⟩ ↔ K0 (str (A.take P)) g3 := fun q K0 => by
        have := (S.oa.ext E3).part (lo := 0) (hi := P) (c' := 20480) (by omega) (by omega) (by omega)
        rw [sub_zero, List.drop_zero] at this
        exact Hp_bytesStr (e := 5) (by kernel_rfl) (by kernel_rfl) (by kernel_rfl) this
      have pB : ∀ (q : Bool) (K0 : Value → Heap → Prop), Hp Try.prog q (convert 29 9 (.slice (some ⟨bb, 0, none⟩) P 20480)) K0 g3 ⟨⟩ ↔ K0 (str (B.take P)) g3 := fun q K0 => by
        have := (S.ob.ext E3).part (lo := 0) (hi := P) (c' := 20480) (by omega) (by omega) (by omega)
        rw [sub_zero, List.drop_zero] at this
        exact Hp_bytesStr (e := 5) (by kernel_rfl) (by kernel_rfl) (by kernel_rfl) this
      have eqT : A.take P = B.take P := by
        rw [hP]
        refine take_sct (by omega) (by omega) fun j hj => ?_
        rw [S.pa.tell j (by omega), S.pb.tell j (by omega), hlt1 j hj]
      have sA : (A.take (P + 512)).drop P = sct A k2 := by
        unfold sct
        rw [List.drop_take, ← hP]
        congr 1
        omega
      have sB : (B.take (P + 512)).drop P = sct B k2 := by
        unfold sct
        rw [List.drop_take, ← hP]
        congr 1
        omega
      have hneS : sct A k2 ≠ sct B k2 := by
        rw [S.pa.tell k2 hk40, S.pb.tell k2 hk40]
        exact hne1
      have qA : ∀ (q : Bool) (K0 : Value → Heap → Prop), Hp Try.prog q (convert 29 9 (.slice (some (sub ⟨ba, 0, none⟩ P 20480)) 512 (20480 - P))) K0 g3 ⟨⟩ ↔ K0 (str (sct A k2)) g3 := fun q K0 => by
        have := (S.oa.ext E3).part (lo := P) (hi := P + 512) (c' := 20480 - P) (by omega) (by omega) (by omega)
        rw [sA, show P + 512 - P = 512 by omega] at this
        exact Hp_bytesStr (e := 5) (by kernel_rfl) (by kernel_rfl) (by kernel_rfl) this
      have qB : ∀ (q : Bool) (K0 : Value → Heap → Prop), Hp Try.prog q (convert 29 9 (.slice (some (sub ⟨bb, 0, none⟩ P 20480)) 512 (20480 - P))) K0 g3 ⟨⟩ ↔ K0 (str (sct B k2)) g3 := fun q K0 => by
        have := (S.ob.ext E3).part (lo := P) (hi := P + 512) (c' := 20480 - P) (by omega) (by omega) (by omega)
        rw [sB, show P + 512 - P = 512 by omega] at this
        exact Hp_bytesStr (e := 5) (by kernel_rfl) (by kernel_rfl) (by kernel_rfl) this
      simp (disch := omega) [c1, c2, hneA, hPi, pA, pB, eqT, qA, qB, hneS]
      refine works_c fun h' e => ?_
      simp (disch := omega)
      exact H h' ((eg.trans E3).trans e)
end Go.Proofs.Ytcgboagadgehjaa
namespace Go.Proofs.Ytcgboagadgehjaa.modelCompare
open Go.ChangeShapes Go.WideShapes Go.ChangeAt Go.RowKit Go.Joins Go.Vc

theorem own : ownKnob Try.prog.godebug = none := by kernel_rfl
theorem laidOut : laidOutB Try.prog = true := by kernel_rfl

set_option maxRecDepth 100000 in
set_option maxHeartbeats 1000000 in
theorem lifted (os : Os) (started : os.Started) (H : Type) (enc : TypeId × Value → H) :
    ReturnsInHanded {} Try.checked os 3 .any (Rows.modelCompareSpec.pre6 enc Try.prog Try.f3 Rows.modelCompareRow.domain false) (Rows.modelCompareSpec.post enc Try.prog Try.f3 false true false false) := by
  refine returnsInHanded_of_change (C := Try.checked) own started (by kernel_rfl) Try.func3
    (ChangeSpec.witness6 (enc := enc) (C := Try.checked) false ⟨#[], #[.int .i64 0, .int .i64 0, .slice none 0 0], []⟩ 8 (by kernel_rfl) (by kernel_rfl) (by kernel_rfl) (by kernel_rfl)) ?_
  intro W base args ds gs before hval0 hW hcnd _
  have hval : ∀ (j : Nat) t v, Try.f3.params[j]? = some t → args[j]? = some v → Value.okWide Try.prog W .any base t v := hval0
  have hW' := hW
  obtain ⟨p, q, hA0, hV, rfl, hfz, hnd⟩ := hW
  have hA : DataW.TrodAll enc Try.prog W 0 (fun _ => true) true Try.f3.params.toList args.toList ds p := hA0
  rw [Try.params3] at hA hval
  obtain ⟨v0, vs0, d0, ds0, p0, q0, hargs, rfl, rfl, h0, r0⟩ := trodAll_cons hA
  obtain ⟨v1, vs1, d1, ds1, p1, q1, rfl, rfl, rfl, h1, r1⟩ := trodAll_cons r0
  obtain ⟨v2, vs2, d2, ds2, p2, q2, rfl, rfl, rfl, h2, r2⟩ := trodAll_cons r1
  obtain ⟨rfl, rfl, rfl⟩ := trodAll_nil r2
  obtain rfl : args = #[v0, v1, v2] := by cases args; simp_all
  obtain ⟨n0, hn0, r0'⟩ := (Laid.top (hval 0 2 v0 rfl rfl) h0 (by kernel_rfl)).int (k := .i64) (by kernel_rfl)
  obtain rfl : v0 = .int .i64 n0 := by simpa using hn0
  obtain ⟨n1, hn1, r1'⟩ := (Laid.top (hval 1 2 v1 rfl rfl) h1 (by kernel_rfl)).int (k := .i64) (by kernel_rfl)
  obtain rfl : v1 = .int .i64 n1 := by simpa using hn1
  obtain ⟨xs, hxs⟩ := open_steps (hval 2 22 v2 rfl rfl) h2
  refine ((ModelCompare_c (h := W.heap) (i64_of r0') (i64_of r1') hxs (K := fun v h' => v = .bool true ∧ Ext W.heap h') (fun h' e => ⟨rfl, e⟩)).out W rfl).mono fun e W' ⟨v, he, hs, hv, hx⟩ => ?_
  exact ⟨v, he, hv ▸ law_post laidOut (by kernel_rfl) rfl (tb := 4) (by kernel_rfl) (by kernel_rfl) hW' (fun hg => by rw [hg]; rfl) (below_of hs hx)⟩

theorem proved : Rows.ModelCompareSaid :=
  OpenClaim.holds_of_wide 3 Try.f3 rfl rfl rfl rfl rfl rfl rfl ⟨rfl, rfl, rfl, rfl, rfl⟩ rfl rfl rfl rfl rfl (by kernel_rfl) Try.func3 (by kernel_rfl)
    (of_decide_eq_true (by kernel_rfl)) (by unfold Func.isWrapper; first | (rw [if_pos (by decide +kernel)]; kernel_rfl) | (rw [if_neg (by decide +kernel)]; exact ⟨rfl, rfl⟩))
    (fun os started H enc _ => lifted os started H enc)
end Go.Proofs.Ytcgboagadgehjaa.modelCompare
