/- What is proved: the law palimpsestlaw14.CacheLoops returns true for every input, and its arguments read as they did. No conditions. -/
import Derived.Test.YtcbbdnaelimpfaaRows
import Derived.Test.YtcbbdnaelimpfaaCacC
import Derived.Test.YtcbbdnaelimpfaaStoC
import Derived.Test.YtcbbdnaelimpfaaOpen
import Derived.Test.YtcbbdnaelimpfaaClose
set_option linter.unusedSimpArgs false
set_option linter.unusedVariables false
namespace Go.Proofs.Ytcbbdnaelimpfaa
open Go.Vc Go.Sort
variable {K : Value → Heap → Prop} {h : Heap}

theorem beh_noneL {c : Ca} {n : Int} (h : c.ws n = []) : c.beh n = [] := List.eq_nil_iff_forall_not_mem.2 fun q hq => by rw [beh_mem, h] at hq; cases hq.1
set_option maxHeartbeats 4000000 in
/-- All pages stand in the file. -/
theorem wrote_c {sp : Nat} {s : St} {p : Ps} {f : Fl} (a : StAt h sp s) (ps : PsAt s p) (hf : p.f = some f) (hl : 4096 ≤ f.now.length) (hb : ∀ m : Nat, m < 8 → bt f.now (512 * m) = UInt8.ofNat (m + 1)) (H : ∀ h', Ext h h' → K (.bool true) h') : CallsH Try.prog 14 #[ptrV sp] h K ⟨⟩ := by
  refine n14_calls ?_
  unfold n14
  obtain ⟨y, y1, y2, y3, y4⟩ := ps.some_ hf
  have hyl : y.last.length = f.now.length := by
    have := (a.fl y (by rw [y1]; simp)).len
    rw [← this, y2]
  rw [show str [102] = str fN from rfl]
  refine Read_c a (by decide) (by decide) (by decide) (by decide) (by decide) (fun h1 e1 hne => ?_) (fun h1 x v e1 hx hgx _ _ _ ov fv _ => ?_)
  · exfalso
    apply hne
    unfold rdErr
    rw [if_pos okN_f, y4]
    dsimp only
    rw [if_neg (by omega)]
  have hxf := (ps_size ps hf hx).1
  rw [hxf, show ((0 : Int)).toNat = 0 from rfl, show ((4096 : Int)).toNat = 4096 from rfl, List.drop_zero] at ov
  have htl : (f.now.take 4096).length = 4096 := by rw [List.length_take]; omega
  obtain ⟨va, vn, vc, rfl, hvn, hvc, hva⟩ := ov.form
  obtain rfl : vn = 4096 := by rw [List.length_map, htl] at hvn; omega
  obtain ⟨vb, vo, rfl⟩ := hva (by intro e; have := congrArg List.length e; rw [List.length_map, htl] at this; simp at this)
  simp (disch := omega)
  refine num_c ?_
  simp (disch := omega)
  refine loopX1 (α := Nat) (fun i => .int .i64 i) (fun i g => i ≤ 8 ∧ g = h1) (fun i => 8 - i) 0 rfl ⟨Nat.zero_le _, rfl⟩ ?_
  rintro i g ⟨hi, rfl⟩ X hX
  by_cases hi8 : i < 8
  · have hc := (ov.cell (i := 512 * i) (by rw [List.length_map, htl]; omega)).1
    have hv : (f.now.take 4096)[512 * i]'(by rw [htl]; omega) = UInt8.ofNat (i + 1) := by
      rw [List.getElem_take, ← bt_get]; exact hb i hi8
    rw [List.getElem_map, hv] at hc
    have hbv : byteV (UInt8.ofNat (i + 1)) = Value.int .u8 ((i : Int) + 1) := by
      have : (UInt8.ofNat (i + 1)).toNat = i + 1 := by rw [UInt8.toNat_ofNat']; omega
      unfold byteV
      rw [this]; rfl
    rw [hbv] at hc
    have hmul : (512 * (i : Int)).toNat = 512 * i := by omega
    simp (disch := omega) [hmul, hc]
    exact hX (i + 1) (.int .i64 ((i : Int) + 1)) g (by simp) ⟨by omega, rfl⟩ (by omega)
  obtain rfl : i = 8 := by omega
  simp (disch := omega)
  exact H _ e1
/-- Behind the first k pages. -/
structure Eight (h0 h : Heap) (o k : Nat) (c : Ca) (s : St) : Prop where
  S : Ses h o k c s ⟨some (fl0 4096), [], 2⟩
  fr : Fr h0 h o c s
  W : c.W = []
  pend : c.pend = []
  bits : c.bits = 9
  room : c.room = 8
  backs : c.backs = 0
  len : c.P.length = k
  dirty : ∀ m, c.dirty m = decide (0 ≤ m ∧ m < (k : Int))
  kept : ∀ m, (c.get m).isSome = decide (0 ≤ m ∧ m < (k : Int))
  vw : ∀ m : Nat, m < k → bt (view (c, ⟨some (fl0 4096), [], 2⟩) m) 0 = UInt8.ofNat (m + 1)
set_option maxHeartbeats 16000000 in
theorem CacheLoops_c {v : Value} {ks : List Int} (hk : Its h v ks) (H : ∀ h', Ext h h' → K (.bool true) h') : CallsH Try.prog 3 #[v] h K ⟨⟩ := by
  refine n3_calls ?_
  unfold n3
  obtain ⟨va, vc, rfl, hvc⟩ := hk.form
  have hfew := hk.few
  by_cases hbig : 100 < ks.length
  · simp (disch := omega) [hbig]
    exact works_c H
  simp (disch := omega) [hbig]
  refine file_c (n := 4096) (by decide) fas_nil (by decide) (fun h1 e1 hr => by cases hr) (fun h1 sp s e1 _ st ps fo qs => ?_)
  refine cNew_c (bits := 9) (room := 8) st ps rfl (by decide) (by decide) (by decide) (by decide) fun h2 o km pm wm e2 a2 ho fo2 => ?_
  have S0 := Ses.new a2 ps (by decide) (by decide)
  have X0 : Fr h h2 o (newC sp 9 8 km pm wm) s := ⟨e1.trans e2, fun b hb => hb.elim (fun e => by have := fo2 b e; have := e1.size; omega) (fun e => fo b e)⟩
  have O0 : Okp ⟨some (fl0 4096), [], 2⟩ := ⟨⟨_, rfl⟩, rfl⟩
  have E0 : Eight h h2 o 0 (newC sp 9 8 km pm wm) s := ⟨S0, X0, rfl, rfl, rfl, rfl, rfl, rfl, fun m => by
    have : (newC sp 9 8 km pm wm).dirty m = false := rfl
    rw [this, eq_comm, decide_eq_false_iff_not]; omega, fun m => by
    have : (newC sp 9 8 km pm wm).get m = none := rfl
    rw [this, eq_comm]; show decide _ = false; rw [decide_eq_false_iff_not]; omega, fun m hm => absurd hm (by omega)⟩
  unfold ptrV
  simp (disch := omega)
  refine num_c ?_
  simp (disch := omega)
  rw [show (.pointer (some ⟨o, 0, none⟩) : Value) = ptrV o from rfl]
  refine loopX1 (α := Nat × Ca × St) (fun z => .int .i64 z.1) (fun z g => z.1 ≤ 8 ∧ Eight h g o z.1 z.2.1 z.2.2 ∧ z.2.1.sp = sp) (fun z => 8 - z.1) (0, newC sp 9 8 km pm wm, s) rfl ⟨Nat.zero_le _, E0, rfl⟩ ?_
  rintro ⟨k, c, s⟩ g ⟨hk8, E, hsp⟩ X hX
  dsimp only at hk8 E hsp ⊢
  by_cases hk7 : k < 8
  · simp (disch := omega)
    have hbv : (Value.int .u8 ((k : Int) + 1)) = byteV (UInt8.ofNat (k + 1)) := by
      have : (UInt8.ofNat (k + 1)).toNat = k + 1 := by rw [UInt8.toNat_ofNat']; omega
      unfold byteV
      rw [this]; rfl
    rw [hbv]
    refine (⟨_, rfl⟩ : ∃ g1, g1 = g.push (.cells #[byteV (UInt8.ofNat (k + 1))] bT)).elim fun g1 eg1 => ?_
    have e3 : Ext g g1 := by rw [eg1]; exact (by repeat' (first | (with_reducible exact Ext.refl _) | (with_reducible assumption) | (with_reducible refine push_ext ?_) | (with_reducible refine hset_ext ?_ ?_) | (with_reducible refine Ext.trans ?_ (by assumption)) | omega | (simp; done) | (simp; omega) | (refine Ext.size ?_) | (refine Nat.le_succ_of_le (Ext.size ?_))))
    have B3 : OwnG bT 1 g1 (.slice (some ⟨g.size, 0, none⟩) 1 1) ([UInt8.ofNat (k + 1)].map byteV) := by rw [eg1]; exact one_slice
    have z3 : g1.size = g.size + 1 := by rw [eg1]; simp
    rw [show g.push (.cells #[byteV (UInt8.ofNat (k + 1))] 5) = g1 from eg1.symm]
    clear eg1
    have gk : c.get (k : Int) = none := by
      have := E.kept k
      rw [decide_eq_false (by omega)] at this
      cases hc : c.get (k : Int) with
      | none => rfl
      | some y => rw [hc] at this; cases this
    have hue : useE c.bits (k : Int) 0 1 = 0 := by
      rw [E.bits]
      have h9 : (2 ^ 9 : Nat) = 512 := rfl
      unfold useE askE
      rw [h9]
      have hd : (268435456 : Int) / ((512 : Nat) : Int) = 524288 := by decide
      rw [hd, if_neg (fun e => e (if_neg (by omega))), if_neg (by omega)]
    have hl := E.len
    have hrm := E.room
    refine write_f (b := [UInt8.ofNat (k + 1)]) (E.S.ext e3) (by omega) O0 gk (by omega) (by simp) (by decide) (by decide) B3.bytes (by simp) (fun d hd => ?_) hue fun h5 c5 s5 u5 S5 F5 V5 V5' => ?_
    · have hd : d = g.size := (Option.some.inj hd).symm
      exact ⟨by omega, fun e => by have := E.S.at_.lt e; omega⟩
    refine num_c ?_
    simp (disch := omega)
    refine hX (k + 1, c5, s5) (.int .i64 ((k : Int) + 1)) h5 (by simp) ⟨by omega, ⟨S5, (E.fr.go e3).upd u5, F5.W.trans E.W, F5.pend.trans E.pend, F5.bits.trans E.bits, F5.room.trans E.room, F5.backs.trans E.backs, by rw [F5.len, hl], fun m => ?_, fun m => ?_, fun m hm => ?_⟩, F5.sp.trans hsp⟩ (by dsimp only; omega)
    · rw [F5.dirty, E.dirty, Bool.eq_iff_iff]
      simp
      omega
    · rw [F5.kept, E.kept, Bool.eq_iff_iff]
      simp
      omega
    · by_cases e : m = k
      · subst e
        rw [V5, bt_over (by rw [fill_len, E.bits]; show 0 + 1 ≤ 2 ^ 9; decide), if_pos (by simp)]
        rfl
      · rw [V5' m (by omega) (by omega)]
        exact E.vw m (by omega)
  obtain rfl : k = 8 := by omega
  simp (disch := omega)
  refine (⟨_, rfl⟩ : ∃ G, G = g.push (.cells #[.bool false, .bool false, .bool false, .bool false, .bool false, .bool false, .bool false, .bool false, .bool false, .bool false, .bool false, .bool false, .bool false, .bool false, .bool false, .bool false, .bool false, .bool false, .bool false, .bool false, .bool false, .bool false, .bool false, .bool false, .bool false, .bool false, .bool false, .bool false, .bool false, .bool false, .bool false, .bool false, .bool false, .bool false, .bool false, .bool false, .bool false, .bool false, .bool false, .bool false, .bool false, .bool false, .bool false, .bool false, .bool false, .bool false, .bool false, .bool false, .bool false, .bool false, .bool false, .bool false, .bool false, .bool false, .bool false, .bool false, .bool false, .bool false, .bool false, .bool false, .bool false, .bool false, .bool false, .bool false] 34)).elim fun G eG => ?_
  have eg : Ext g G := by rw [eG]; exact (by repeat' (first | (with_reducible exact Ext.refl _) | (with_reducible assumption) | (with_reducible refine push_ext ?_) | (with_reducible refine hset_ext ?_ ?_) | (with_reducible refine Ext.trans ?_ (by assumption)) | omega | (simp; done) | (simp; omega) | (refine Ext.size ?_) | (refine Nat.le_succ_of_le (Ext.size ?_))))
  have qG : G[g.size]? = some (.cells ((List.replicate 64 false).map Value.bool).toArray 34) := by rw [eG]; exact get_pushed rfl
  rw [← eG]
  clear eG
  have wbE : ∀ b, Ft o c s b → b ≠ g.size := fun b hb => by have := E.S.at_.lt hb; omega
  -- the pairs
  refine loopX1 (α := Nat × Ca × St × List Bool) (fun z => .int .i64 z.1) (fun z G => z.1 ≤ ks.length ∧ Ses G o (8 + z.1) z.2.1 z.2.2.1 ⟨some (fl0 4096), [], 2⟩ ∧ Fr h G o z.2.1 z.2.2.1 ∧ z.2.1 = { c with W := z.2.1.W } ∧ (∀ b, Ft o z.2.1 z.2.2.1 b → b ≠ g.size) ∧ G[g.size]? = some (.cells (z.2.2.2.map Value.bool).toArray 34) ∧ z.2.2.2.length = 64 ∧ (∀ a b : Nat, a < 8 → b < 8 → (z.2.2.2.getD (a * 8 + b) false = true ↔ Reach z.2.1 (b : Int) (a : Int)))) (fun z => ks.length - z.1) (0, c, s, List.replicate 64 false) rfl ⟨Nat.zero_le _, E.S.ext eg, E.fr.go eg, rfl, wbE, qG, by simp, fun a b ha hb => ?_⟩ ?_
  · constructor
    · intro e
      exfalso
      rw [List.getD_eq_getElem?_getD, List.getElem?_replicate] at e
      split at e <;> cases e
    · intro e
      obtain ⟨y, hy, -⟩ := Reach.iff.1 e
      rw [beh_mem] at hy
      have : c.ws (a : Int) = [] := by unfold Ca.ws; rw [E.W]; rfl
      rw [this] at hy; cases hy.1
  rintro ⟨i, c1, s1, l⟩ g1 ⟨hi, S1, X1, hc1, wb1, q1, hl64, hM⟩ X hX
  dsimp only at hi S1 X1 hc1 wb1 q1 hl64 hM ⊢
  by_cases hik : i < ks.length
  · simp (disch := omega)
    obtain ⟨ad, vc', hva, hvc', hseg⟩ := hk.seg (fun e => by rw [e] at hik; simp at hik)
    have hva' := hva
    injection hva' with hva1 hva2 hva3
    subst hva1
    have hce : hcell g1 (elt ad i) = some (.int .i64 ks[i]) := by
      have h0 := hseg i (by simpa using hik)
      have h1 := hcell_ext X1.ext h0
      rw [h1]; simp [inV]
    obtain ⟨p, hp⟩ := Int.eq_ofNat_of_zero_le (show 0 ≤ ks[i] % 8 by omega)
    obtain ⟨q, hq⟩ := Int.eq_ofNat_of_zero_le (show 0 ≤ ks[i] / 8 % 8 by omega)
    have hp8 : p < 8 := by omega
    have hq8 : q < 8 := by omega
    refine JoinN_in0 (fun G => ∃ (c2 : Ca) (s2 : St) (l2 : List Bool), Ses G o (8 + (i + 1)) c2 s2 ⟨some (fl0 4096), [], 2⟩ ∧ Fr h G o c2 s2 ∧ c2 = { c with W := c2.W } ∧ (∀ b, Ft o c2 s2 b → b ≠ g.size) ∧ G[g.size]? = some (.cells (l2.map Value.bool).toArray 34) ∧ l2.length = 64 ∧ (∀ a b : Nat, a < 8 → b < 8 → (l2.getD (a * 8 + b) false = true ↔ Reach c2 (b : Int) (a : Int)))) (fun kk hkk => ?_) (fun G hG => ?_)
    · refine JoinN.mk ?_
      simp (disch := omega) [hce, Hp_and7, Hp_shr3, hp, hq]
      have hb9 : c1.bits = 9 := by rw [hc1]; exact E.bits
      have hask : ∀ m : Nat, m < 8 → askE c1.bits (m : Int) = 0 := fun m hm => by
        rw [hb9]
        unfold askE
        have hd : (268435456 : Int) / ((2 ^ 9 : Nat) : Int) = 524288 := by decide
        rw [hd, if_neg (by omega)]
      have hop : c1.opn (q : Int) = true := by
        have : c1.dirty (q : Int) = true := by
          have h1 : c1.dirty (q : Int) = c.dirty (q : Int) := by rw [hc1]; rfl
          rw [h1, E.dirty]; simp; omega
        unfold Ca.opn; rw [this]; rfl
      have hgl : g.size < g1.size := get_some_lt q1
      have rd : ∀ (G : Heap) (m : List Bool), G[g.size]? = some (.cells (m.map Value.bool).toArray 34) → m.length = 64 → ∀ a b : Nat, a < 8 → b < 8 → hcell G ⟨g.size, a * 8 + b, none⟩ = some (.bool (m.getD (a * 8 + b) false)) := fun G m hG hm a b ha hb => by
        refine (cellOf hG ?_)
        rw [List.getElem?_toArray, List.getElem?_map, List.getD_eq_getElem?_getD, List.getElem?_eq_getElem (by omega)]
        rfl
      have adr : ∀ a b : Nat, (if b = 0 then (⟨g.size, a * 8, none⟩ : Addr) else ⟨(if a * 8 = 0 then (⟨g.size, 0, none⟩ : Addr) else ⟨g.size, a * 8, none⟩).block, (if a * 8 = 0 then (⟨g.size, 0, none⟩ : Addr) else ⟨g.size, a * 8, none⟩).off + b, none⟩) = ⟨g.size, a * 8 + b, none⟩ := fun a b => by
        split
        · rename_i e; rw [e, Nat.add_zero]
        · split
          · rename_i e; rw [e]
          · rfl
      have adr2 : ∀ a b : Nat, (if b = 0 then (if a * 8 = 0 then (⟨g.size, 0, none⟩ : Addr) else ⟨g.size, a * 8, none⟩) else ⟨(if a * 8 = 0 then (⟨g.size, 0, none⟩ : Addr) else ⟨g.size, a * 8, none⟩).block, (if a * 8 = 0 then (⟨g.size, 0, none⟩ : Addr) else ⟨g.size, a * 8, none⟩).off + b, none⟩) = ⟨g.size, a * 8 + b, none⟩ := fun a b => by
        split
        · rename_i e
          rw [e, Nat.add_zero]
          split
          · rename_i e; rw [e]
          · rfl
        · split
          · rename_i e; rw [e]
          · rfl
      refine after_s S1 (by omega) (fun e => ?_) (fun g2 _ _ hR e2 => ?_) (fun g2 _ _ _ hno _ => ?_) (fun g2 c2 _ _ hnR hopq u2 W2 S2 => ?_)
      · exact absurd e (by rw [hask p hp8, hask q hq8]; decide)
      · refine num_c ?_
        have r1 := rd g2 l ((e2.block _ hgl).trans q1) hl64 q p hq8 hp8
        have kin := hkk g2 ⟨c1, s1, l, (S1.ext e2).mono (by omega), X1.go e2, hc1, wb1, (e2.block _ hgl).trans q1, hl64, hM⟩
        by_cases hpq : p = q
        · simp (disch := omega) [hpq]
          exact kin
        · have hR' : Reach c1 (p : Int) (q : Int) := hR.resolve_left (fun e => hpq (by omega))
          have hT : l.getD (q * 8 + p) false = true := (hM q p hq8 hp8).2 hR'
          rw [hT] at r1
          simp (disch := omega) [hpq, adr, r1]
          exact kin
      · rw [hop] at hno; cases hno
      · refine num_c ?_
        have hpq : ¬ p = q := fun e => hnR (.inl (by omega))
        have q2 := (u2.mod.block _ hgl (fun e => wb1 _ e rfl)).trans q1
        have r1 := rd g2 l q2 hl64 q p hq8 hp8
        have hF : l.getD (q * 8 + p) false = false := by
          cases hc : l.getD (q * 8 + p) false with
          | false => rfl
          | true => exact absurd ((hM q p hq8 hp8).1 hc) (fun e => hnR (.inr e))
        rw [hF] at r1
        simp (disch := omega) [hpq, adr, r1]
        obtain ⟨old, hold⟩ : ∃ old : Nat → Nat → Bool, old = fun x y => l.getD (x * 8 + y) false := ⟨_, rfl⟩
        obtain ⟨nw, hnw⟩ : ∃ nw : Nat → Nat → Bool, nw = fun x y => old x y || ((decide (x = p) || old x p) && (decide (y = q) || old q y)) := ⟨_, rfl⟩
        have oqp : old q p = false := by rw [hold]; exact hF
        have nwp : ∀ x, nw x p = old x p := fun x => by rw [hnw]; simp [oqp, hpq]
        have nwq : ∀ y, nw q y = old q y := fun y => by rw [hnw]; simp [oqp, Ne.symm hpq]
        refine loopX1 (α := Nat × List Bool) (fun z => .int .i64 z.1) (fun z G => z.1 ≤ 8 ∧ Mod (· = g.size) g2 G ∧ G[g.size]? = some (.cells (z.2.map Value.bool).toArray 34) ∧ z.2.length = 64 ∧ (∀ x y : Nat, x < 8 → y < 8 → z.2.getD (x * 8 + y) false = if x < z.1 then nw x y else old x y)) (fun z => 8 - z.1) (0, l) rfl ⟨Nat.zero_le _, .refl _ _, q2, hl64, fun x y _ _ => by rw [if_neg (by omega), hold]⟩ ?_
        rintro ⟨a, m⟩ G ⟨ha8, mG, qG', hm, hv⟩ X2 hX2
        dsimp only at ha8 mG qG' hm hv ⊢
        by_cases ha : a < 8
        · simp (disch := omega)
          refine loopX1 (α := Nat × List Bool) (fun z => .int .i64 z.1) (fun z G => z.1 ≤ 8 ∧ Mod (· = g.size) g2 G ∧ G[g.size]? = some (.cells (z.2.map Value.bool).toArray 34) ∧ z.2.length = 64 ∧ (∀ x y : Nat, x < 8 → y < 8 → z.2.getD (x * 8 + y) false = if x < a ∨ (x = a ∧ y < z.1) then nw x y else old x y)) (fun z => 8 - z.1) (0, m) rfl ⟨Nat.zero_le _, mG, qG', hm, fun x y hx hy => by
            rw [hv x y hx hy]
            by_cases h1 : x < a
            · rw [if_pos h1, if_pos (.inl h1)]
            · rw [if_neg h1, if_neg (by dsimp only; omega)]⟩ ?_
          rintro ⟨b, m⟩ G ⟨hb8, mG, qG', hm, hv⟩ X3 hX3
          dsimp only at hb8 mG qG' hm hv ⊢
          by_cases hb : b < 8
          · have va : m.getD (a * 8 + p) false = old a p := by rw [hv a p ha hp8, nwp]; split <;> rfl
            have vb : m.getD (q * 8 + b) false = old q b := by rw [hv q b hq8 hb, nwq]; split <;> rfl
            have vab : m.getD (a * 8 + b) false = old a b := by rw [hv a b ha hb, if_neg (by omega)]
            have ra := rd G m qG' hm a p ha hp8
            have rb := rd G m qG' hm q b hq8 hb
            have rab := rd G m qG' hm a b ha hb
            have rf := frzOf (i := a * 8 + b) qG'
            rw [va] at ra
            rw [vb] at rb
            have stay : nw a b = old a b → X3 (.int .i64 ((b : Int) + 1)) G := fun he =>
              hX3 (b + 1, m) _ G (by simp) ⟨by omega, mG, qG', hm, fun x y hx hy => by
                rw [hv x y hx hy]
                by_cases h1 : x < a ∨ (x = a ∧ y < b)
                · rw [if_pos h1, if_pos (by dsimp only; omega)]
                · rw [if_neg h1]
                  by_cases h2 : x = a ∧ y = b
                  · rw [if_pos (by dsimp only; omega), h2.1, h2.2, he]
                  · rw [if_neg (by dsimp only; omega)]⟩ (by dsimp only; omega)
            have put : nw a b = true → X3 (.int .i64 ((b : Int) + 1)) (hset G ⟨g.size, a * 8 + b, none⟩ (.bool true)) := fun he => by
              refine hX3 (b + 1, m.set (a * 8 + b) true) _ _ (by simp) ⟨by omega, Mod.setIn mG (.inl rfl), ?_, by simpa using hm, fun x y hx hy => ?_⟩ (by dsimp only; omega)
              · rw [obj_set qG']
                simp [List.map_set]
              · dsimp only
                rw [List.getD_eq_getElem?_getD, List.getElem?_set]
                by_cases h2 : a * 8 + b = x * 8 + y
                · have h3 : x = a ∧ y = b := by omega
                  rw [if_pos h2, if_pos (by omega), if_pos (by omega), h3.1, h3.2, he]; rfl
                · rw [if_neg h2, ← List.getD_eq_getElem?_getD, hv x y hx hy]
                  by_cases h1 : x < a ∨ (x = a ∧ y < b)
                  · rw [if_pos h1, if_pos (by omega)]
                  · rw [if_neg h1, if_neg (by omega)]
            simp (disch := omega)
            refine JoinN.mk (JoinN.mk ?_)
            rw [hnw] at stay put
            dsimp only at stay put
            by_cases h1 : a = p
            · have h1' := eq_true h1
              by_cases h2 : b = q
              · have h2' := eq_true h2
                cases h3 : old a p <;> cases h4 : old q b <;> rw [h3] at ra stay put <;> rw [h4] at rb stay put <;> simp (disch := omega) [h1', h2', adr, adr2, ra, rb, rab, rf] <;> first | exact put (by simp [h1, h2]) | exact stay (by simp [h1, h2])
              · have h2' := eq_false h2
                cases h3 : old a p <;> cases h4 : old q b <;> rw [h3] at ra stay put <;> rw [h4] at rb stay put <;> simp (disch := omega) [h1', h2', adr, adr2, ra, rb, rab, rf] <;> first | exact put (by simp [h1, h2]) | exact stay (by simp [h1, h2])
            · have h1' := eq_false h1
              by_cases h2 : b = q
              · have h2' := eq_true h2
                cases h3 : old a p <;> cases h4 : old q b <;> rw [h3] at ra stay put <;> rw [h4] at rb stay put <;> simp (disch := omega) [h1', h2', adr, adr2, ra, rb, rab, rf] <;> first | exact put (by simp [h1, h2]) | exact stay (by simp [h1, h2])
              · have h2' := eq_false h2
                cases h3 : old a p <;> cases h4 : old q b <;> rw [h3] at ra stay put <;> rw [h4] at rb stay put <;> simp (disch := omega) [h1', h2', adr, adr2, ra, rb, rab, rf] <;> first | exact put (by simp [h1, h2]) | exact stay (by simp [h1, h2])
          obtain rfl : b = 8 := by omega
          simp (disch := omega)
          refine hX2 (a + 1, m) (.int .i64 ((a : Int) + 1)) G (by simp) ⟨by omega, mG, qG', hm, fun x y hx hy => ?_⟩ (by dsimp only; omega)
          rw [hv x y hx hy]
          by_cases h1 : x < a + 1
          · rw [if_pos (by omega), if_pos h1]
          · rw [if_neg (by omega), if_neg h1]
        obtain rfl : a = 8 := by omega
        simp (disch := omega)
        have hc2 : c2 = { c with W := c2.W } := by
          have h1 := W2.same
          rw [hc1] at h1
          exact h1
        have wb2 : ∀ b, Ft o c2 s1 b → b ≠ g.size := fun b hb e => (u2.foot b hb).elim (fun e2 => wb1 b e2 e) (fun e2 => by omega)
        have nq : ∀ y ∈ s1.F, y.qs = [] := fun y hy => by
          obtain ⟨z, z1, z2, -, -⟩ := S2.ps.some_ rfl
          rw [z1] at hy
          have : y = z := by simpa using hy
          have h2 := congrArg Fl.ps z2
          rw [this]
          exact List.map_eq_nil_iff.1 h2
        have atG : CAt G o c2 s1 := S2.at_.mod mG wb2 (fun y hy qq hq => by rw [nq y hy] at hq; cases hq)
        have frG : Fr h G o c2 s1 := by
          have f2 := X1.upd u2
          exact ⟨mG.ext_from f2.ext (fun b hb e => by have := E.fr.ext.size; omega), f2.fr⟩
        refine hkk G ⟨c2, s1, m, ⟨atG, S2.ps, ?_, S2.coh, ?_, ?_⟩, frG, hc2, wb2, qG', hm, fun x y hx hy => ?_⟩
        · have := S2.wf
          exact ⟨this.inv, this.opn, this.acyc, this.lim.mono (by omega)⟩
        · have := S2.bud; omega
        · have := S2.clk; omega
        · rw [hv x y hx hy, if_pos hx, hnw, reach_waited W2 (by assumption), hold]
          dsimp only
          rw [← hM x y hx hy]
          simp only [Bool.or_eq_true, Bool.and_eq_true, decide_eq_true_eq]
          rw [hM x p hx hp8, hM q y hq8 hy]
          constructor
          · rintro (h1 | ⟨h1, h2⟩)
            · exact .inl h1
            · exact .inr ⟨h1.imp (fun e => by omega) id, h2.imp (fun e => by omega) id⟩
          · rintro (h1 | ⟨h1, h2⟩)
            · exact .inl h1
            · exact .inr ⟨h1.imp (fun e => by omega) id, h2.imp (fun e => by omega) id⟩
    · obtain ⟨c2, s2, l2, a1, a2, a3, a4, a5, a6, a7⟩ := hG
      simp (disch := omega)
      exact hX (i + 1, c2, s2, l2) (.int .i64 ((i : Int) + 1)) G (by simp) ⟨by omega, a1, a2, a3, a4, a5, a6, a7⟩ (by dsimp only; omega)
  obtain rfl : i = ks.length := by omega
  simp (disch := omega)
  have hb9 : c1.bits = 9 := by rw [hc1]; exact E.bits
  have hask : ∀ m : Nat, m < 8 → askE 9 (m : Int) = 0 := fun m hm => by
    unfold askE
    have hd : (268435456 : Int) / ((2 ^ 9 : Nat) : Int) = 524288 := by decide
    rw [hd, if_neg (by omega)]
  have hd1 : ∀ m : Int, c1.dirty m = decide (0 ≤ m ∧ m < (8 : Int)) := fun m => by
    have h1 : c1.dirty m = c.dirty m := by rw [hc1]; rfl
    rw [h1]; exact E.dirty m
  have hk1 : ∀ m : Int, (c1.get m).isSome = decide (0 ≤ m ∧ m < (8 : Int)) := fun m => by
    have h1 : c1.get m = c.get m := by rw [hc1]; rfl
    rw [h1]; exact E.kept m
  have hv1 : ∀ m : Nat, m < 8 → bt (view (c1, ⟨some (fl0 4096), [], 2⟩) m) 0 = UInt8.ofNat (m + 1) := fun m hm => by
    have h1 : view (c1, (⟨some (fl0 4096), [], 2⟩ : Ps)) m = view (c, (⟨some (fl0 4096), [], 2⟩ : Ps)) m := by rw [hc1]; rfl
    rw [h1]; exact E.vw m hm
  refine loopX1 (α := Nat × Ca × Ps × St) (fun z => .int .i64 z.1) (fun z G => z.1 ≤ 8 ∧ Ses G o (120 + z.1) z.2.1 z.2.2.2 z.2.2.1 ∧ Fr h G o z.2.1 z.2.2.2 ∧ Okp z.2.2.1 ∧ Mics (c1, ⟨some (fl0 4096), [], 2⟩) (z.2.1, z.2.2.1) ∧ (∀ m : Nat, m < z.1 → z.2.1.dirty (m : Int) = false)) (fun z => 8 - z.1) (0, c1, ⟨some (fl0 4096), [], 2⟩, s1) rfl ⟨Nat.zero_le _, S1.mono (by omega), X1, O0, .refl _, fun m hm => absurd hm (by dsimp only; omega)⟩ ?_
  rintro ⟨k, c2, p2, s2⟩ G ⟨hk8', S2, X2, O2, M2, D2⟩ X hX
  dsimp only at hk8' S2 X2 O2 M2 D2 ⊢
  have hb2 : c2.bits = 9 := M2.less.bits.trans hb9
  by_cases hk7' : k < 8
  · simp (disch := omega)
    refine back_s S2 (by omega) fun g3 s3 f rk hf hr u3 S3 => ?_
    obtain ⟨o1, o2⟩ := backC_okp (x := (c2, p2)) (n := (k : Int)) hf hr O2 (by dsimp only; rw [hb2]; exact hask k hk7') (by
      have h1 := M2.less.kept (k : Int)
      dsimp only at h1 ⊢
      rw [h1, hk1]; simp; omega)
    obtain ⟨m1, -, m3⟩ := backC_mics (x := (c2, p2)) hf hr (n := (k : Int))
    have m3 := m3 o1
    generalize backC f (k : Int) (c2, p2) = R at *
    obtain ⟨⟨c3, p3⟩, e⟩ := R
    dsimp only at *
    subst o1
    refine num_c ?_
    simp (disch := omega)
    refine hX (k + 1, c3, p3, s3) (.int .i64 ((k : Int) + 1)) g3 (by simp) ⟨by omega, S3.mono (by omega), X2.upd u3, o2, M2.trans m1, fun m hm => ?_⟩ (by dsimp only; omega)
    by_cases e : m = k
    · subst e; exact m3 rfl
    · cases hc : c3.dirty (m : Int) with
      | false => rfl
      | true =>
        have h1 := m1.less.dirty (m : Int) hc
        dsimp only at h1
        rw [D2 m (by omega)] at h1; cases h1
  obtain rfl : k = 8 := by omega
  have D8 : ∀ m : Int, c2.dirty m = false := fun m => by
    cases hc : c2.dirty m with
    | false => rfl
    | true =>
      have h1 := M2.less.dirty m hc
      dsimp only at h1
      rw [hd1, decide_eq_true_eq] at h1
      obtain ⟨N, rfl⟩ := Int.eq_ofNat_of_zero_le h1.1
      rw [D2 N (by omega)] at hc; cases hc
  have hfree : Free c2 := M2.free (x := (c1, _)) (fun n y hy hyd => by
    exfalso
    have h1 := hd1 n
    have h2 := hk1 n
    have hy : c1.get n = some y := hy
    rw [hy] at h2
    rw [← h2] at h1
    unfold Ca.dirty at h1
    rw [hy] at h1
    dsimp only at h1
    rw [hyd] at h1; cases h1)
  have hdn1 : c1.dN = 8 := by
    unfold Ca.dN
    have hP : c1.P = c.P := by rw [hc1]
    rw [List.filter_eq_self.2 (fun y hy => by
      have h1 := get_of_mem S1.coh.nd hy
      have h2 := hk1 y.n
      have h3 := hd1 y.n
      dsimp only at h1
      rw [h1] at h2
      rw [← h2] at h3
      unfold Ca.dirty at h3
      rw [h1] at h3
      exact h3), hP]
    exact E.len
  have hbk : c2.backs = 8 := by
    have h1 := M2.cnt S1.coh.nd
    dsimp only at h1
    have h2 : c2.dN = 0 := dN_zero S2.coh.nd (fun y _ => D8 y.n)
    have h3 : c1.backs = 0 := by rw [hc1]; exact E.backs
    omega
  obtain ⟨ch2, vw2⟩ := M2.coh S1.coh
  have hlen2 := M2.len S1.coh
  simp (disch := omega)
  refine State_c S2.at_.co (fun h3 hne => absurd (by rw [hb2]; exact hask 3 (by decide)) hne) fun h3 v3 _ e3 ov3 _ => ?_
  have hbe3 : c2.beh 3 = [] := by
    refine beh_noneL ?_
    have h1 := M2.less.kept 3
    dsimp only at h1
    rw [hk1] at h1
    cases hy : c2.get 3 with
    | none => rw [hy] at h1; cases h1
    | some y =>
      refine hfree 3 y hy ?_
      have := D8 3
      unfold Ca.dirty at this
      rw [hy] at this; exact this
  rw [hbe3] at ov3
  rw [D8 3]
  obtain ⟨wa, wn, wc, rfl, hwn, -, -⟩ := ov3.form (by decide)
  obtain rfl : wn = 0 := by simpa using hwn.symm
  simp (disch := omega)
  refine (⟨_, rfl⟩ : ∃ G4, G4 = hset (hset (hset (Array.push h3 (.cells #[.bool false, .bool false, .slice none 0 0] 40)) ⟨h3.size, 0, none⟩ (.bool false)) ⟨h3.size, 1, none⟩ (.bool (decide (3 ∈ c2.pend)))) ⟨h3.size, 2, none⟩ (.slice wa 0 wc)).elim fun G4 eG4 => ?_
  have e4 : Ext h3 G4 := by rw [eG4]; exact (by repeat' (first | (with_reducible exact Ext.refl _) | (with_reducible assumption) | (with_reducible refine push_ext ?_) | (with_reducible refine hset_ext ?_ ?_) | (with_reducible refine Ext.trans ?_ (by assumption)) | omega | (simp; done) | (simp; omega) | (refine Ext.size ?_) | (refine Nat.le_succ_of_le (Ext.size ?_))))
  have p0 : hcell G4 ⟨h3.size, 0, none⟩ = some (.bool false) := by rw [eG4]; simp
  have p2c : hcell G4 ⟨h3.size, 2, none⟩ = some (.slice wa 0 wc) := by rw [eG4]; simp
  have z4 : h3.size < G4.size := by rw [eG4]; simp
  rw [← eG4]
  clear eG4
  refine Counts_c ((S2.at_.co.ext e3).ext e4) fun h5 e5 => ?_
  rw [hbk]
  have p0' := hcell_ext e5 p0
  have p2' := hcell_ext e5 p2c
  have z5 := e5.size
  have nz : ¬ h3.size = h5.size := by omega
  simp (disch := omega)
  refine (⟨_, rfl⟩ : ∃ G6, G6 = hset (hset (hset (hset (Array.push h5 (.cells #[.int .i64 0, .int .i64 0, .int .i64 0, .int .i64 0] 44)) ⟨h5.size, 0, none⟩ (.int .i64 c2.hits)) ⟨h5.size, 1, none⟩ (.int .i64 c2.loads)) ⟨h5.size, 2, none⟩ (.int .i64 8)) ⟨h5.size, 3, none⟩ (.int .i64 c2.flushes)).elim fun G6 eG6 => ?_
  have e6 : Ext h5 G6 := by rw [eG6]; exact (by repeat' (first | (with_reducible exact Ext.refl _) | (with_reducible assumption) | (with_reducible refine push_ext ?_) | (with_reducible refine hset_ext ?_ ?_) | (with_reducible refine Ext.trans ?_ (by assumption)) | omega | (simp; done) | (simp; omega) | (refine Ext.size ?_) | (refine Nat.le_succ_of_le (Ext.size ?_))))
  have r2 : hcell G6 ⟨h5.size, 2, none⟩ = some (.int .i64 8) := by rw [eG6]; simp
  have p0'' := hcell_ext e6 p0'
  have p2'' := hcell_ext e6 p2'
  rw [← eG6]
  clear eG6
  have hsp2 : c2.sp = sp := by
    have h1 := M2.same.sp
    have h2 : c1.sp = c.sp := by rw [hc1]
    exact h1.trans (h2.trans hsp)
  have st6 : StAt G6 sp s2 := by
    have := ((((S2.at_.ext e3).ext e4).ext e5).ext e6).st
    rw [hsp2] at this; exact this
  obtain ⟨f2, hf2⟩ := O2.f
  have hnow : nowP p2 = f2.now := by unfold nowP; rw [hf2]
  have hlen : 4096 ≤ f2.now.length := by
    have h1 := lenP_now ch2.pok
    dsimp only at h1 hlen2
    rw [hnow] at h1
    have h2 : lenP (⟨some (fl0 4096), [], 2⟩ : Ps) = 4096 := by show (zeros 4096).length = 4096; exact zeros_len _
    omega
  have hbytes : ∀ m : Nat, m < 8 → bt f2.now (512 * m) = UInt8.ofNat (m + 1) := fun m hm => by
    have h1 := vw2 (m : Int) (by omega)
    rw [view_clean ch2 (D8 m)] at h1
    have h2 := congrArg (fun l => bt l 0) h1
    dsimp only at h2
    rw [fill_bt _ _ _ (by rw [hb2]; decide), hb2, hnow, hv1 m hm, Int.toNat_natCast] at h2
    have h3 : m * 2 ^ 9 + 0 = 512 * m := by omega
    rw [h3] at h2
    exact h2
  refine num_c ?_
  simp (disch := omega) [p0'', p2'', r2]
  refine wrote_c st6 S2.ps hf2 hlen hbytes fun h7 e7 => ?_
  simp (disch := omega)
  refine works_c fun h8 e8 => ?_
  simp (disch := omega)
  exact H h8 (X2.ext.trans (e3.trans (e4.trans (e5.trans (e6.trans (e7.trans e8))))))
end Go.Proofs.Ytcbbdnaelimpfaa
namespace Go.Proofs.Ytcbbdnaelimpfaa.cacheLoops
open Go.ChangeShapes Go.WideShapes Go.ChangeAt Go.RowKit Go.Joins Go.Vc

theorem own : ownKnob Try.prog.godebug = none := by kernel_rfl
theorem laidOut : laidOutB Try.prog = true := by kernel_rfl

set_option maxRecDepth 100000 in
set_option maxHeartbeats 1000000 in
theorem lifted (os : Os) (started : os.Started) (H : Type) (enc : TypeId × Value → H) :
    ReturnsInHanded {} Try.checked os 3 .any (Rows.cacheLoopsSpec.pre6 enc Try.prog Try.f3 Rows.cacheLoopsRow.domain false) (Rows.cacheLoopsSpec.post enc Try.prog Try.f3 false true false false) := by
  refine returnsInHanded_of_change (C := Try.checked) own started (by kernel_rfl) Try.func3
    (ChangeSpec.witness6 (enc := enc) (C := Try.checked) false ⟨#[], #[.slice none 0 0], []⟩ 8 (by kernel_rfl) (by kernel_rfl) (by kernel_rfl) (by kernel_rfl)) ?_
  intro W base args ds gs before hval0 hW hcnd _
  have hval : ∀ (j : Nat) t v, Try.f3.params[j]? = some t → args[j]? = some v → Value.okWide Try.prog W .any base t v := hval0
  have hW' := hW
  obtain ⟨p, q, hA0, hV, rfl, hfz, hnd⟩ := hW
  have hA : DataW.TrodAll enc Try.prog W 0 (fun _ => true) true Try.f3.params.toList args.toList ds p := hA0
  rw [Try.params3] at hA hval
  obtain ⟨v0, vs0, d0, ds0, p0, q0, hargs, rfl, rfl, h0, r0⟩ := trodAll_cons hA
  obtain ⟨rfl, rfl, rfl⟩ := trodAll_nil r0
  obtain rfl : args = #[v0] := by cases args; simp_all
  obtain ⟨ks, hks⟩ := open_its (hval 0 22 v0 rfl rfl) h0
  refine ((CacheLoops_c (h := W.heap) hks (K := fun v h' => v = .bool true ∧ Ext W.heap h') (fun h' e => ⟨rfl, e⟩)).out W rfl).mono fun e W' ⟨v, he, hs, hv, hx⟩ => ?_
  exact ⟨v, he, hv ▸ law_post laidOut (by kernel_rfl) rfl (tb := 4) (by kernel_rfl) (by kernel_rfl) hW' (fun hg => by rw [hg]; rfl) (below_of hs hx)⟩

theorem proved : Rows.CacheLoopsSaid :=
  OpenClaim.holds_of_wide 3 Try.f3 rfl rfl rfl rfl rfl rfl rfl ⟨rfl, rfl, rfl, rfl, rfl⟩ rfl rfl rfl rfl rfl (by kernel_rfl) Try.func3 (by kernel_rfl)
    (of_decide_eq_true (by kernel_rfl)) (by unfold Func.isWrapper; first | (rw [if_pos (by decide +kernel)]; kernel_rfl) | (rw [if_neg (by decide +kernel)]; exact ⟨rfl, rfl⟩))
    (fun os started H enc _ => lifted os started H enc)
end Go.Proofs.Ytcbbdnaelimpfaa.cacheLoops
