/- Stops: lists of ints made anew; is there no store; how many ways; a way by picks. Stops: a way's number, a number's way. Stops: the known case; how many pieces there may be. Stops: going over the ways' numbers. -/
import Derived.Test.YtdmcaaojapcbcaaRfsB
import Derived.Test.YtdmcaaojapcbcaaStoG
import Derived.Test.YtdmcaaojapcbcaaRfsC
set_option linter.unusedSimpArgs false
set_option linter.unusedVariables false
namespace Go.Vc
open Go
section
variable {P : Program} {q : Bool} {K : Value → Heap → Prop} {h : Heap}
theorem Hp_shl1 {t : TypeId} {x y : Operand} {k' : IntKind} {a : Int} (h0 : 0 ≤ a) (h1 : a < 4611686018427387904) : Hp P q (binS .shl t x y (.int .i64 a) (.int k' 1)) K h ⟨⟩ ↔ ValI (a * 2) (fun n => K (.int .i64 n) h) ⟨⟩ :=
  Hp_shlW (b := 1) (w := 2) rfl (by decide) h0 (by omega)
theorem Hp_shr1 {t : TypeId} {x y : Operand} {k' : IntKind} {a : Int} (h0 : 0 ≤ a) : Hp P q (binS .shr t x y (.int .i64 a) (.int k' 1)) K h ⟨⟩ ↔ ValI (a / 2) (fun n => K (.int .i64 n) h) ⟨⟩ :=
  Hp_shrW (b := 1) (w := 2) rfl (by decide) h0
theorem Hp_and1 {t : TypeId} {x y : Operand} {a : Int} (h0 : 0 ≤ a) (h1 : a < 9223372036854775808) : Hp P q (binS .and t x y (.int .i64 a) (.int .i64 1)) K h ⟨⟩ ↔ ValI (a % 2) (fun n => K (.int .i64 n) h) ⟨⟩ :=
  Hp_andW (b := 1) (w := 2) rfl rfl (by decide) h0 h1
theorem Hp_orBit {t : TypeId} {x y : Operand} {a b : Int} (a0 : 0 ≤ a) (a1 : a % 2 = 0) (b0 : 0 ≤ b) (b1 : b < 2) (s : a + b < 9223372036854775808) : Hp P q (binS .or t x y (.int .i64 a) (.int .i64 b)) K h ⟨⟩ ↔ ValI (a + b) (fun n => K (.int .i64 n) h) ⟨⟩ := by
  rw [Hp_or]
  have e1 : (BitVec.ofInt IntKind.i64.bits a).toNat = a.toNat := bv_nat a0 (by show a < 2 ^ 64; omega)
  have e2 : (BitVec.ofInt IntKind.i64.bits b).toNat = b.toNat := bv_nat b0 (by show b < 2 ^ 64; omega)
  have e : b.toNat ||| a.toNat = b.toNat + a.toNat := or_low (n := 1) (by omega) (by omega)
  rw [BitVec.toNat_or, e1, e2, Nat.or_comm, e]
  have : ((b.toNat + a.toNat : Nat) : Int) = a + b := by omega
  rw [this, wrap_i64 (by omega) s]
end
end Go.Vc
namespace Go.Proofs.Ytdmcaaojapcbcaa
open Go.Vc
variable {K : Value → Heap → Prop} {h : Heap}

/-- A block of ints. -/
def Blk (h : Heap) (b : Nat) (l : List Int) : Prop := h[b]? = some (.cells (l.map inV).toArray 3)
theorem Blk.its {b : Nat} {l : List Int} (a : Blk h b l) (hl : l.length < 9223372036854775808) (ho : ∀ n ∈ l, -9223372036854775808 ≤ n ∧ n < 9223372036854775808) : Its h (.slice (some ⟨b, 0, none⟩) l.length l.length) l :=
  ⟨.inr (.inl ⟨⟨b, 0, none⟩, _, rfl, by simp, fun i hi => by
    rw [elt_mk, Nat.zero_add, hcell_of_block a]
    simp at hi
    simp [hi]⟩), ⟨_, _, rfl, Nat.le_refl _⟩, hl, ho⟩
theorem Blk.set {b i : Nat} {l : List Int} {n : Int} (a : Blk h b l) : Blk (hset h ⟨b, i, none⟩ (.int .i64 n)) b (l.set i n) := by
  refine (obj_set a).trans ?_
  simp [List.map_set, inV]
theorem Blk.cell {b i : Nat} {l : List Int} (a : Blk h b l) (hi : i < l.length) : hcell h ⟨b, i, none⟩ = some (.int .i64 l[i]) ∧ hfrozen h ⟨b, i, none⟩ = false := by
  constructor
  · rw [hcell_of_block a]; simp [hi, inV]
  · rw [hfrozen_of_block a]; simp
theorem Blk.cellE {b i : Nat} {l : List Int} (a : Blk h b l) (hi : i < l.length) : hcell h (elt ⟨b, 0, none⟩ i) = some (.int .i64 l[i]) ∧ hfrozen h (elt ⟨b, 0, none⟩ i) = false := by
  rw [elt_mk, Nat.zero_add]; exact a.cell hi
theorem Blk.setE {b i : Nat} {l : List Int} {n : Int} (a : Blk h b l) : Blk (hset h (elt ⟨b, 0, none⟩ i) (.int .i64 n)) b (l.set i n) := by
  rw [elt_mk, Nat.zero_add]; exact a.set
theorem Blk.new {n : Nat} : Blk (h.push (.cells (Array.replicate n (.int .i64 0)) 3)) h.size (List.replicate n 0) := by
  refine (get_pushed rfl).trans ?_
  congr 2
  rw [List.map_replicate, List.toArray_replicate]; rfl
/-- A way by picks. -/
def plainW (n : Nat) (ks : List Int) : List Int := (List.range n).map fun i => (ks[i]?.getD 0) % 2
theorem plainW_len (n : Nat) (ks : List Int) : (plainW n ks).length = n := by unfold plainW; simp
theorem plainW_get {n : Nat} {ks : List Int} {i : Nat} (hi : i < (plainW n ks).length) : (plainW n ks)[i] = (ks[i]?.getD 0) % 2 := by
  have h9 : (plainW n ks)[i]? = some ((ks[i]?.getD 0) % 2) := by
    rw [plainW_len] at hi
    unfold plainW; simp [hi]
  rw [List.getElem?_eq_getElem hi] at h9
  exact Option.some.inj h9
theorem plainW_nil (n : Nat) : plainW n [] = List.replicate n 0 := by
  refine List.ext_getElem (by rw [plainW_len, List.length_replicate]) fun i h1 h2 => ?_
  rw [plainW_get]; simp
theorem plainW_set {n : Nat} {ks : List Int} {i : Nat} (hi : i < n) (hk : i < ks.length) : (plainW n (ks.take i)).set i (ks[i] % 2) = plainW n (ks.take (i + 1)) := by
  refine List.ext_getElem (by rw [List.length_set, plainW_len, plainW_len]) fun j h1 h2 => ?_
  rw [plainW_get, List.getElem_set]
  split
  · rename_i e; subst e
    rw [List.getElem?_take_of_lt (Nat.lt_succ_self _), List.getElem?_eq_getElem hk]; rfl
  · rename_i e
    rw [plainW_get]
    by_cases hj : j < i
    · rw [List.getElem?_take_of_lt hj, List.getElem?_take_of_lt (by omega)]
    · rw [List.getElem?_eq_none (by rw [List.length_take]; omega), List.getElem?_eq_none (by rw [List.length_take]; omega)]
theorem plainW_take {n : Nat} {ks : List Int} : plainW n (ks.take n) = plainW n ks := by
  refine List.ext_getElem (by rw [plainW_len, plainW_len]) fun j h1 h2 => ?_
  rw [plainW_get, plainW_get]
  rw [plainW_len] at h1
  rw [List.getElem?_take_of_lt h1]
theorem plainW_bit {n : Nat} {ks : List Int} : ∀ x ∈ plainW n ks, x = 0 ∨ x = 1 := by
  intro x hx
  obtain ⟨i, -, rfl⟩ := List.mem_map.1 hx
  omega
theorem bits_i64 {l : List Int} (h : ∀ x ∈ l, x = 0 ∨ x = 1) : ∀ x ∈ l, -9223372036854775808 ≤ x ∧ x < 9223372036854775808 := fun x hx => by have := h x hx; omega

theorem none_st {p : Nat} {s : St} (a : StAt h p s) (H : ∀ h', Ext h h' → K (.bool false) h') : CallsH Try.prog 44 #[ptrV p] h K ⟨⟩ := by
  refine n44_calls ?_
  unfold n44
  unfold ptrV
  simp (disch := omega)
  refine Copy_c a fun h' p' s' e1 _ _ _ _ _ _ => ?_
  unfold ptrV
  simp (disch := omega)
  exact H h' e1
theorem Count_st {p : Nat} {s : St} (a : StAt h p s) (H : ∀ h', Ext h h' → K (if 62 < s.pend then .tuple #[.int .i64 0, .int .i64 3] else .tuple #[.int .i64 ((2 ^ s.pend : Nat) : Int), .int .i64 0]) h') : CallsH Try.prog 13 #[ptrV p] h K ⟨⟩ := by
  refine n13_calls ?_
  unfold n13
  refine none_st a fun h1 e1 => ?_
  simp (disch := omega)
  refine Pending_c (a.ext e1) fun h2 e2 => ?_
  by_cases hp : 62 < s.pend
  · simp (disch := omega)
    have := H h2 (e1.trans e2)
    rwa [if_pos hp] at this
  · simp (disch := omega)
    refine Pending_c ((a.ext e1).ext e2) fun h3 e3 => ?_
    have := H h3 ((e1.trans e2).trans e3)
    rw [if_neg hp] at this
    have hpw : 2 ^ s.pend ≤ 2 ^ 62 := Nat.pow_le_pow_right (by omega) (by omega)
    rw [Hp_shlW (b := s.pend) (w := 2 ^ s.pend) rfl (by omega) (by omega) (by omega)]
    rw [Int.one_mul]
    simp (disch := omega)
    simpa using this
theorem neg7_c (n : Int) (g : Heap) (K : Value → Heap → Prop) (hn : -9223372036854775808 ≤ n ∧ n < 9223372036854775808) (H : K (.bool (decide (n < 0))) g) : InvokeH Try.prog (.func (.func 46) #[] #[]) #[.int .i64 n] g K ⟨⟩ := by
  refine InvokeH_f1 (by kernel_rfl) ?_
  refine n46_calls ?_
  unfold n46
  by_cases e : n < 0
  · rw [decide_eq_true e] at H
    simp (disch := omega) [e]
    exact H
  · rw [decide_eq_false e] at H
    simp (disch := omega) [e]
    exact H
def badK (ks : List Int) : Bool := ks.any fun n => decide (n < 0)
set_option maxHeartbeats 2000000 in
theorem Plain_st {p : Nat} {s : St} {v : Value} {ks : List Int} (a : StAt h p s) (hpd : s.pend ≤ 100000000000) (hk : Its h v ks) (He : ∀ h', Ext h h' → badK ks = true → K (.tuple #[.slice none 0 0, .int .i64 2]) h')
    (H0 : ∀ h' w, Ext h h' → badK ks = false → Its h' w (plainW s.pend ks) → K (.tuple #[w, .int .i64 0]) h') : CallsH Try.prog 14 #[ptrV p, v] h K ⟨⟩ := by
  refine n14_calls ?_
  unfold n14
  obtain ⟨va, vc, rfl, hvc⟩ := hk.form
  have hfew := hk.few
  refine none_st a fun h1 e1 => ?_
  simp (disch := omega)
  refine IndexI_c (hk.ext e1) (fun n => decide (n < 0)) (fun n g K hn => neg7_c n g K hn) ?_
  cases hneg : ks.any (fun n => decide (n < 0)) with
  | true =>
    simp (disch := omega)
    exact He h1 e1 hneg
  | false =>
  have hpos : ∀ k ∈ ks, 0 ≤ k := fun k hkk => by
    have := List.any_eq_false.1 hneg k hkk
    simp at this; exact this
  simp (disch := omega)
  refine Pending_c (a.ext e1) fun h2 e2 => ?_
  have hmn : (if s.pend < ks.length then (s.pend : Int) else (ks.length : Int)) = ((min s.pend ks.length : Nat) : Int) := by split <;> omega
  simp (disch := omega) [hmn, Hp_slgNH (P := Try.prog) (t := 23) (s := 1) (by kernel_rfl)]
  have E2 := e1.trans e2
  generalize hm : min s.pend ks.length = m
  refine (⟨_, rfl⟩ : ∃ f, f = h2.push (.cells (Array.replicate s.pend (.int .i64 0)) 3)).elim fun h3 eh3 => ?_
  have e3 : Ext h2 h3 := by rw [eh3]; exact (by repeat' (first | (with_reducible exact Ext.refl _) | (with_reducible assumption) | (with_reducible refine push_ext ?_) | (with_reducible refine hset_ext ?_ ?_) | (with_reducible refine Ext.trans ?_ (by assumption)) | omega | (simp; done) | (simp; omega) | (refine Ext.size ?_) | (refine Nat.le_succ_of_le (Ext.size ?_))))
  have b3 : Blk h3 h2.size (List.replicate s.pend 0) := by rw [eh3]; exact Blk.new
  rw [show h2.push (.cells (Array.replicate s.pend (.int .i64 0)) 3) = h3 from eh3.symm]
  clear eh3
  refine loopX1 (α := Nat) (fun i => .int .i64 i) (fun i g => i ≤ m ∧ Ext h2 g ∧ Blk g h2.size (plainW s.pend (ks.take i))) (fun i => m - i) 0 rfl ⟨Nat.zero_le _, e3, by rw [List.take_zero, plainW_nil]; exact b3⟩ ?_
  rintro i g ⟨hi, eg, bg⟩ X hX
  by_cases him : i < m
  · have hki : i < ks.length := by omega
    obtain ⟨ad, c', hv, hc', hseg⟩ := (hk.ext (E2.trans eg)).seg (fun e => by rw [e] at hki; simp at hki)
    cases hv
    have r0 := hseg i (by simpa using hki)
    have r1 : hcell g (elt ad i) = some (.int .i64 ks[i]) := by rw [r0]; simp [inV]
    have hkp := hpos _ (List.getElem_mem hki)
    have hko := hk.ok _ (List.getElem_mem hki)
    obtain ⟨w1, w2⟩ := bg.cellE (i := i) (by rw [plainW_len]; omega)
    simp (disch := omega) [r1, w1, w2]
    refine hX (i + 1) _ _ (by simp) ⟨him, hset_ext eg (by simp), ?_⟩ (by omega)
    rw [← plainW_set (by omega) hki]
    exact bg.setE
  · obtain rfl : i = m := by omega
    simp (disch := omega)
    have hW : plainW s.pend (ks.take i) = plainW s.pend ks := by
      rw [← hm]
      by_cases h9 : s.pend ≤ ks.length
      · rw [Nat.min_eq_left h9, plainW_take]
      · rw [Nat.min_eq_right (by omega), List.take_length]
    rw [hW] at bg
    have := bg.its (by rw [plainW_len]; omega) (bits_i64 plainW_bit)
    rw [plainW_len] at this
    exact H0 _ _ (E2.trans eg) hneg this
end Go.Proofs.Ytdmcaaojapcbcaa
set_option linter.unusedSimpArgs false
set_option linter.unusedVariables false
namespace Go.Proofs.Ytdmcaaojapcbcaa
open Go.Vc
variable {K : Value → Heap → Prop} {h : Heap}

def numW (l : List Int) : Int := l.foldl (fun n b => n * 2 + b) 0
theorem numW_snoc (l : List Int) (x : Int) : numW (l ++ [x]) = numW l * 2 + x := by unfold numW; rw [List.foldl_append]; rfl
theorem numW_aux : ∀ (l : List Int) (a : Int), (∀ x ∈ l, x = 0 ∨ x = 1) → 0 ≤ a → 0 ≤ l.foldl (fun n b => n * 2 + b) a ∧ l.foldl (fun n b => n * 2 + b) a < (a + 1) * ((2 ^ l.length : Nat) : Int)
  | [], a, _, h0 => by simp; omega
  | x :: l, a, h, h0 => by
    have h2 := h x (by simp)
    have ih := numW_aux l (a * 2 + x) (fun y hy => h y (by simp [hy])) (by omega)
    rw [List.foldl_cons, List.length_cons, Nat.pow_succ]
    refine ⟨ih.1, Int.lt_of_lt_of_le ih.2 ?_⟩
    have h3 : (a * 2 + x + 1) ≤ (a + 1) * 2 := by omega
    have h4 := Int.mul_le_mul_of_nonneg_right h3 (Int.natCast_nonneg (2 ^ l.length))
    have h5 : (a + 1) * ((2 ^ l.length * 2 : Nat) : Int) = (a + 1) * 2 * ((2 ^ l.length : Nat) : Int) := by
      rw [Int.natCast_mul, Int.mul_assoc, Int.mul_comm ((2 ^ l.length : Nat) : Int)]; rfl
    rw [h5]; exact h4
theorem numW_lt (l : List Int) (h : ∀ x ∈ l, x = 0 ∨ x = 1) : 0 ≤ numW l ∧ numW l < ((2 ^ l.length : Nat) : Int) := by
  have := numW_aux l 0 h (Int.le_refl _)
  unfold numW
  simpa using this
/-- The way of a number. -/
def bitsW : Nat → Int → List Int
  | 0, _ => []
  | p + 1, n => bitsW p (n / 2) ++ [n % 2]
theorem bitsW_len : ∀ (p : Nat) (n : Int), (bitsW p n).length = p
  | 0, _ => rfl
  | p + 1, n => by rw [bitsW, List.length_append, bitsW_len p]; rfl
theorem bitsW_bit : ∀ (p : Nat) (n : Int), ∀ x ∈ bitsW p n, x = 0 ∨ x = 1
  | 0, _, x, hx => by cases hx
  | p + 1, n, x, hx => by
    rw [bitsW] at hx
    rcases List.mem_append.1 hx with hx | hx
    · exact bitsW_bit p _ x hx
    · simp at hx; omega
theorem bitsW_num : ∀ (p : Nat) (n : Int), 0 ≤ n → n < ((2 ^ p : Nat) : Int) → numW (bitsW p n) = n
  | 0, n, h0, h1 => by simp at h1; unfold bitsW numW; simp; omega
  | p + 1, n, h0, h1 => by
    rw [bitsW, numW_snoc, bitsW_num p (n / 2) (by omega) (by rw [Nat.pow_succ] at h1; omega)]
    omega
theorem bitsW_zero : ∀ (p : Nat), bitsW p 0 = List.replicate p 0
  | 0 => rfl
  | p + 1 => by rw [bitsW, show (0 : Int) / 2 = 0 from rfl, bitsW_zero p, List.replicate_succ']; rfl
theorem bitsW_plain (p : Nat) (n : Int) : plainW p (bitsW p n) = bitsW p n := by
  refine List.ext_getElem (by rw [plainW_len, bitsW_len]) fun i h1 h2 => ?_
  rw [plainW_get, List.getElem?_eq_getElem h2]
  have := bitsW_bit p n _ (List.getElem_mem h2)
  show (bitsW p n)[i] % 2 = _
  omega

set_option maxHeartbeats 2000000 in
theorem Number_st {p : Nat} {s : St} {v : Value} {ks : List Int} (a : StAt h p s) (hpd : s.pend ≤ 100000000000) (hk : Its h v ks) (He : ∀ h', Ext h h' → badK ks = true → K (.tuple #[.int .i64 0, .int .i64 2]) h')
    (Hl : ∀ h', Ext h h' → badK ks = false → 62 < s.pend → K (.tuple #[.int .i64 0, .int .i64 3]) h')
    (H0 : ∀ h', Ext h h' → badK ks = false → s.pend ≤ 62 → K (.tuple #[.int .i64 (numW (plainW s.pend ks)), .int .i64 0]) h') : CallsH Try.prog 15 #[ptrV p, v] h K ⟨⟩ := by
  refine n15_calls ?_
  unfold n15
  refine Plain_st a hpd hk (fun h1 e1 hb => ?_) (fun h1 w e1 hb hw => ?_)
  · simp (disch := omega)
    exact RetD_nil (He h1 e1 hb)
  have hwl := plainW_len s.pend ks
  have hbit := plainW_bit (n := s.pend) (ks := ks)
  generalize hW : plainW s.pend ks = W at *
  obtain ⟨wa, wc, rfl, hwc⟩ := hw.form
  by_cases hp : 62 < s.pend
  · simp (disch := omega)
    exact RetD_nil (Hl h1 e1 hb hp)
  simp (disch := omega)
  refine (⟨_, rfl⟩ : ∃ f, f = hset (h1.push (.cells #[.int .i64 0] 2)) ⟨h1.size, 0, none⟩ (.int .i64 0)).elim fun g0 eg0 => ?_
  have e0 : Ext h1 g0 := by rw [eg0]; exact (by repeat' (first | (with_reducible exact Ext.refl _) | (with_reducible assumption) | (with_reducible refine push_ext ?_) | (with_reducible refine hset_ext ?_ ?_) | (with_reducible refine Ext.trans ?_ (by assumption)) | omega | (simp; done) | (simp; omega) | (refine Ext.size ?_) | (refine Nat.le_succ_of_le (Ext.size ?_))))
  have z0 : g0.size = h1.size + 1 := by rw [eg0]; simp
  have q0 : g0[h1.size]? = some (.cells #[.int .i64 0] 2) := by rw [eg0]; exact obj_set (get_pushed rfl)
  rw [show hset (h1.push (.cells #[.int .i64 0] 2)) ⟨h1.size, 0, none⟩ (.int .i64 0) = g0 from eg0.symm]
  clear eg0
  refine JoinN_in1 (fun D g => D = consD (h1.size + 2) (.tuple #[]) ∧ g[h1.size + 2]? = some (.deferred (some [])) ∧ Ext h1 g ∧ g[h1.size]? = some (.cells #[.int .i64 (numW W)] 2)) (fun kk hkk => ?_) (fun D g hD => ?_)
  · refine n47_calls ?_
    unfold n47
    simp (disch := omega)
    refine JoinN.mk ?_
    refine (⟨_, rfl⟩ : ∃ x, x = g0.push (.cells #[.slice wa W.length wc] 23)).elim fun h0 eh0 => ?_
    have e2 : Ext g0 h0 := by rw [eh0]; exact (by repeat' (first | (with_reducible exact Ext.refl _) | (with_reducible assumption) | (with_reducible refine push_ext ?_) | (with_reducible refine hset_ext ?_ ?_) | (with_reducible refine Ext.trans ?_ (by assumption)) | omega | (simp; done) | (simp; omega) | (refine Ext.size ?_) | (refine Nat.le_succ_of_le (Ext.size ?_))))
    have z2 : h0.size = h1.size + 2 := by rw [eh0]; simp [z0]
    have q2 : h0[h1.size + 1]? = some (.cells #[.slice wa W.length wc] 23) := by rw [eh0]; exact get_pushed z0.symm
    rw [show g0.push (.cells #[.slice wa W.length wc] 23) = h0 from eh0.symm, z0]
    clear eh0
    refine RangeC_none rfl fun oR oB oE oX oF Kp hoR hoB hrd hN hR hX => ?_
    clear hR hX
    refine (⟨_, rfl⟩ : ∃ x, x = (h0.push (.deferred (some []))).push oR).elim fun h3 eh3 => ?_
    have e3 : Ext h0 h3 := by rw [eh3]; exact (by repeat' (first | (with_reducible exact Ext.refl _) | (with_reducible assumption) | (with_reducible refine push_ext ?_) | (with_reducible refine hset_ext ?_ ?_) | (with_reducible refine Ext.trans ?_ (by assumption)) | omega | (simp; done) | (simp; omega) | (refine Ext.size ?_) | (refine Nat.le_succ_of_le (Ext.size ?_))))
    have z3 : h3.size = h1.size + 4 := by rw [eh3]; simp [z2]
    have rD : h3[h1.size + 2]? = some (.deferred (some [])) := by rw [eh3, get_push (by simp; omega), get_pushed (by omega)]
    have rL : h3[h1.size + 3]? = some oR := by rw [eh3, get_pushed (by simp; omega)]
    rw [← eh3]
    clear eh3
    rw [z2] at hrd hN ⊢
    refine InvokeH_k1 (by kernel_rfl) ?_
    refine n86_calls ?_
    unfold n86
    have c0 := cellOf (i := 0) ((e3.block (h1.size + 1) (by omega)).trans q2) rfl
    simp (disch := omega) [c0]
    have q3 : h3[h1.size]? = some (.cells #[.int .i64 0] 2) := (e3.block _ (by omega)).trans ((e2.block _ (by omega)).trans q0)
    refine loopX1 (α := Nat) (fun i => .int .i64 i) (fun i g => i ≤ W.length ∧ Ext h1 g ∧ g[h1.size + 2]? = some (.deferred (some [])) ∧ g[h1.size + 3]? = some oR ∧ g[h1.size]? = some (.cells #[.int .i64 (numW (W.take i))] 2)) (fun i => W.length - i) 0 rfl
      ⟨Nat.zero_le _, e0.trans (e2.trans e3), rD, rL, q3⟩ ?_
    rintro i g ⟨hi, eg, gD, gL, gq⟩ X hX
    by_cases hil : i < W.length
    · obtain ⟨ad, c', hv, hc', hseg⟩ := (hw.ext eg).seg (fun e => by rw [e] at hil; simp at hil)
      cases hv
      have r0 := hseg i (by simpa using hil)
      have r1 : hcell g (elt ad i) = some (.int .i64 W[i]) := by rw [r0]; simp [inV]
      have hbi := hbit _ (List.getElem_mem hil)
      simp (disch := omega) [r1]
      refine hrd [.int .i64 W[i]] g _ rfl gL ⟨gL, ?_⟩
      have hlt := numW_lt (W.take i) (fun x hx => hbit x (List.mem_of_mem_take hx))
      have hlt2 : 2 ^ (W.take i).length ≤ 2 ^ 61 := Nat.pow_le_pow_right (by omega) (by rw [List.length_take]; omega)
      have hsn : numW (W.take (i + 1)) = numW (W.take i) * 2 + W[i] := by rw [List.take_succ_eq_append_getElem hil, numW_snoc]
      generalize numW (W.take i) = N at *
      refine (⟨_, rfl⟩ : ∃ f, f = g.setIfInBounds (h1.size + 2 + 1) oB).elim fun gB egB => ?_
      have mB : Mod (· = h1.size + 3) g gB := by rw [egB]; exact Mod.put _ _ _
      have gLB : gB[h1.size + 3]? = some oB := by rw [egB]; exact get_put (get_some_lt gL)
      rw [← egB]
      clear egB
      have gqB := (mB.block h1.size (get_some_lt gq) (by omega)).trans gq
      have gDB := (mB.block (h1.size + 2) (get_some_lt gD) (by omega)).trans gD
      have eB : Ext h1 gB := mB.ext_from eg (fun b hb e => by omega)
      have k0 := cellOf (i := 0) gqB rfl
      have f0 := frzOf (i := 0) gqB
      have hz0 := get_some_lt gqB
      simp (disch := omega) [k0, f0, getV, Hp_shl1, Hp_orBit]
      have m4 : Mod (fun b => b = h1.size ∨ b = h1.size + 3) gB ((hset (hset gB ⟨h1.size, 0, none⟩ (.int .i64 (N * 2))) ⟨h1.size, 0, none⟩ (.int .i64 (N * 2 + W[i]))).setIfInBounds (h1.size + 2 + 1) oR) := Mod.putIn (Mod.setIn (Mod.setIn (Mod.refl _ _) (.inl (.inl rfl))) (.inl (.inl rfl))) (.inl (.inr rfl))
      refine ⟨(get_hset' (by omega)).trans ((get_hset' (by omega)).trans gLB), hX (i + 1) _ _ (by simp) ⟨hil, m4.ext_from eB (fun b hb e => by omega), (m4.block _ (get_some_lt gDB) (by omega)).trans gDB, get_put (by rw [hset_size, hset_size]; exact get_some_lt gLB), ?_⟩ (by omega)⟩
      rw [hsn]
      exact (get_putne (by omega)).trans (obj_set (obj_set gqB))
    · obtain rfl : i = W.length := by omega
      simp (disch := omega)
      refine hN _ _ gL ?_
      dsimp only
      have mE := Mod.put g (h1.size + 2 + 1) oE
      rw [List.take_length] at gq
      exact hkk _ _ ⟨rfl, (mE.block _ (get_some_lt gD) (by omega)).trans gD, mE.ext_from eg (fun b hb e => by omega), (mE.block _ (get_some_lt gq) (by omega)).trans gq⟩
  · obtain ⟨rfl, hd, eg, hq⟩ := hD
    have c0 := cellOf (i := 0) hq rfl
    simp (disch := omega) [c0]
    refine RetD_one' hd ?_
    have md := Mod.put g (h1.size + 2) (.deferred none)
    exact H0 _ (md.ext_from (e1.trans eg) (fun b hb e => by have := e1.size; omega)) hb (by omega)
set_option maxHeartbeats 2000000 in
theorem way_stB {p : Nat} {n : Int} (hp : p ≤ 100000000000) (h0 : 0 ≤ n) (h1 : n < 9223372036854775808) (H : ∀ h' b, Ext h h' → Blk h' b (bitsW p n) → h.size ≤ b → K (.slice (some ⟨b, 0, none⟩) p p) h') : CallsH Try.prog 48 #[.int .i64 p, .int .i64 n] h K ⟨⟩ := by
  refine n48_calls ?_
  unfold n48
  simp (disch := omega)
  refine (⟨_, rfl⟩ : ∃ f, f = h.push (.cells (Array.replicate p (.int .i64 0)) 3)).elim fun h3 eh3 => ?_
  have e3 : Ext h h3 := by rw [eh3]; exact (by repeat' (first | (with_reducible exact Ext.refl _) | (with_reducible assumption) | (with_reducible refine push_ext ?_) | (with_reducible refine hset_ext ?_ ?_) | (with_reducible refine Ext.trans ?_ (by assumption)) | omega | (simp; done) | (simp; omega) | (refine Ext.size ?_) | (refine Nat.le_succ_of_le (Ext.size ?_))))
  have b3 : Blk h3 h.size (List.replicate p 0) := by rw [eh3]; exact Blk.new
  rw [show h.push (.cells (Array.replicate p (.int .i64 0)) 3) = h3 from eh3.symm]
  clear eh3
  refine JoinN_in0 (fun g => Ext h g ∧ Blk g h.size (bitsW p n)) (fun kk hkk => ?_) (fun g hg => ?_)
  · simp (disch := omega)
    refine JoinN.mk ?_
    refine loopX2 (α := Nat × Int × List Int) (fun a => .int .i64 a.2.1) (fun a => .int .i64 ((a.1 : Int) - 1)) (fun a g => a.1 ≤ p ∧ 0 ≤ a.2.1 ∧ a.2.1 < 9223372036854775808 ∧ bitsW a.1 a.2.1 ++ a.2.2 = bitsW p n ∧ Ext h g ∧ Blk g h.size (List.replicate a.1 0 ++ a.2.2)) (fun a => a.1) (p, n, []) ⟨rfl, rfl⟩ ⟨Nat.le_refl _, h0, h1, by simp, e3, by simpa using b3⟩ ?_
    rintro ⟨j, n', S⟩ g ⟨hj, n0, n1, hb, eg, bg⟩ X hX
    dsimp only at hj n0 n1 hb eg bg hX ⊢
    cases j with
    | zero =>
      simp (disch := omega)
      refine hkk _ ⟨eg, ?_⟩
      rw [← hb]; exact bg
    | succ j =>
      have hjj : ((j + 1 : Nat) : Int) - 1 = (j : Int) := by omega
      rw [hjj]
      by_cases hz : n' = 0
      · simp (disch := omega) [hz]
        refine hkk _ ⟨eg, ?_⟩
        rw [← hb, hz, bitsW_zero]; exact bg
      · have hlen : j < (List.replicate (j + 1) (0 : Int) ++ S).length := by simp; omega
        obtain ⟨w1, w2⟩ := bg.cellE hlen
        simp (disch := omega) [hz, Hp_and1, Hp_shr1, w1, w2]
        refine hX (j, n' / 2, n' % 2 :: S) _ _ _ rfl (by simp) ⟨by dsimp only; omega, by dsimp only; omega, by dsimp only; omega, ?_, hset_ext eg (by simp), ?_⟩ (by dsimp only; omega)
        · rw [← hb, bitsW]; simp
        · have hs : (List.replicate (j + 1) (0 : Int) ++ S).set j (n' % 2) = List.replicate j 0 ++ (n' % 2 :: S) := by
            rw [List.replicate_succ', List.append_assoc, List.set_append_right _ _ (by simp)]
            simp
          have := bg.setE (i := j) (n := n' % 2)
          rw [hs] at this
          exact this
  · obtain ⟨eg, bg⟩ := hg
    exact H _ _ eg bg (Nat.le_refl _)
theorem way_st {p : Nat} {n : Int} (hp : p ≤ 100000000000) (h0 : 0 ≤ n) (h1 : n < 9223372036854775808) (H : ∀ h' w, Ext h h' → Its h' w (bitsW p n) → (∀ b, blkV w = some b → h.size ≤ b) → K w h') : CallsH Try.prog 48 #[.int .i64 p, .int .i64 n] h K ⟨⟩ :=
  way_stB hp h0 h1 fun h' b e bg hb => by
    have := bg.its (by rw [bitsW_len]; omega) (bits_i64 (bitsW_bit p n))
    rw [bitsW_len] at this
    refine H _ _ e this (fun c hc => ?_)
    cases p with
    | zero => cases hc; exact hb
    | succ p => cases hc; exact hb
set_option maxHeartbeats 2000000 in
theorem way7_c {p : Nat} {n : Int} (hp : p ≤ 100000000000) (h0 : 0 ≤ n) (h1 : n < 9223372036854775808) (H : ∀ h' w, Ext h h' → Its h' w (bitsW p n) → K w h') : CallsH Try.prog 35 #[.int .i64 p, .int .i64 n] h K ⟨⟩ := by
  refine n35_calls ?_
  unfold n35
  simp (disch := omega)
  refine (⟨_, rfl⟩ : ∃ f, f = h.push (.cells (Array.replicate p (.int .i64 0)) 3)).elim fun h3 eh3 => ?_
  have e3 : Ext h h3 := by rw [eh3]; exact (by repeat' (first | (with_reducible exact Ext.refl _) | (with_reducible assumption) | (with_reducible refine push_ext ?_) | (with_reducible refine hset_ext ?_ ?_) | (with_reducible refine Ext.trans ?_ (by assumption)) | omega | (simp; done) | (simp; omega) | (refine Ext.size ?_) | (refine Nat.le_succ_of_le (Ext.size ?_))))
  have b3 : Blk h3 h.size (List.replicate p 0) := by rw [eh3]; exact Blk.new
  rw [show h.push (.cells (Array.replicate p (.int .i64 0)) 3) = h3 from eh3.symm]
  clear eh3
  refine loopX2 (α := Nat × Int × List Int) (fun a => .int .i64 a.2.1) (fun a => .int .i64 ((a.1 : Int) - 1)) (fun a g => a.1 ≤ p ∧ 0 ≤ a.2.1 ∧ a.2.1 < 9223372036854775808 ∧ bitsW a.1 a.2.1 ++ a.2.2 = bitsW p n ∧ Ext h g ∧ Blk g h.size (List.replicate a.1 0 ++ a.2.2)) (fun a => a.1) (p, n, []) ⟨rfl, rfl⟩ ⟨Nat.le_refl _, h0, h1, by simp, e3, by simpa using b3⟩ ?_
  rintro ⟨j, n', S⟩ g ⟨hj, n0, n1, hb, eg, bg⟩ X hX
  dsimp only at hj n0 n1 hb eg bg hX ⊢
  cases j with
  | zero =>
    simp (disch := omega)
    have bg' : Blk g h.size (bitsW p n) := by rw [← hb]; exact bg
    have := bg'.its (by rw [bitsW_len]; omega) (bits_i64 (bitsW_bit p n))
    rw [bitsW_len] at this
    exact H _ _ eg this
  | succ j =>
    have hjj : ((j + 1 : Nat) : Int) - 1 = (j : Int) := by omega
    rw [hjj]
    have hlen : j < (List.replicate (j + 1) (0 : Int) ++ S).length := by simp; omega
    obtain ⟨w1, w2⟩ := bg.cellE hlen
    simp (disch := omega) [w1, w2]
    refine hX (j, n' / 2, n' % 2 :: S) _ _ _ rfl (by simp) ⟨by dsimp only; omega, by dsimp only; omega, by dsimp only; omega, ?_, hset_ext eg (by simp), ?_⟩ (by dsimp only; omega)
    · rw [← hb, bitsW]; simp
    · have hs : (List.replicate (j + 1) (0 : Int) ++ S).set j (n' % 2) = List.replicate j 0 ++ (n' % 2 :: S) := by
        rw [List.replicate_succ', List.append_assoc, List.set_append_right _ _ (by simp)]
        simp
      have := bg.setE (i := j) (n := n' % 2)
      rw [hs] at this
      exact this
theorem At_st {p : Nat} {s : St} {n : Int} (a : StAt h p s) (hpd : s.pend ≤ 100000000000) (h0 : -9223372036854775808 ≤ n) (h1 : n < 9223372036854775808)
    (He : ∀ h' e, Ext h h' → (n < 0 ∧ e = 2 ∨ 0 ≤ n ∧ 62 < s.pend ∧ e = 3 ∨ 0 ≤ n ∧ s.pend ≤ 62 ∧ ((2 ^ s.pend : Nat) : Int) ≤ n ∧ e = 4) → K (.tuple #[.slice none 0 0, .int .i64 e]) h')
    (H0 : ∀ h' w, Ext h h' → 0 ≤ n → s.pend ≤ 62 → n < ((2 ^ s.pend : Nat) : Int) → Its h' w (bitsW s.pend n) → K (.tuple #[w, .int .i64 0]) h') : CallsH Try.prog 16 #[ptrV p, .int .i64 n] h K ⟨⟩ := by
  refine n16_calls ?_
  unfold n16
  refine none_st a fun h2 e2 => ?_
  by_cases hn : n < 0
  · simp (disch := omega) [hn]
    exact He _ _ e2 (.inl ⟨hn, rfl⟩)
  simp (disch := omega) [hn]
  refine Count_st (a.ext e2) fun h3 e3 => ?_
  by_cases hp : 62 < s.pend
  · rw [if_pos hp]
    simp (disch := omega)
    exact He _ _ (e2.trans e3) (.inr (.inl ⟨by omega, hp, rfl⟩))
  rw [if_neg hp]
  generalize hW : 2 ^ s.pend = W at *
  by_cases hm : (W : Int) ≤ n
  · simp (disch := omega) [hm]
    exact He _ _ (e2.trans e3) (.inr (.inr ⟨by omega, by omega, hm, rfl⟩))
  simp (disch := omega) [hm]
  refine Pending_c ((a.ext e2).ext e3) fun h4 e4 => ?_
  refine way_st hpd (by omega) h1 fun h5 w e5 hw _ => ?_
  exact H0 _ w (((e2.trans e3).trans e4).trans e5) (by omega) (by omega) (by omega) hw
theorem same7_c {v w : Value} {k l : List Int} (hk : Its h v k) (hl : Its h w l) (H : K (.bool (decide (k = l))) h) : CallsH Try.prog 17 #[v, w] h K ⟨⟩ := by
  refine n17_calls ?_
  unfold n17
  obtain ⟨va, vc, rfl, hvc⟩ := hk.form
  obtain ⟨wa, wc, rfl, hwc⟩ := hl.form
  have f1 := hk.few
  have f2 := hl.few
  by_cases hlen : k.length = l.length
  · simp (disch := omega) [hlen]
    refine loopX1 (α := Nat) (fun i => .int .i64 i) (fun i g => i ≤ l.length ∧ h = g ∧ k.take i = l.take i) (fun i => l.length - i) 0 rfl ⟨Nat.zero_le _, rfl, by simp⟩ ?_
    rintro i g ⟨hi, rfl, he⟩ X hX
    by_cases hil : i < l.length
    · have hik : i < k.length := by omega
      obtain ⟨ad, c', hv, -, hseg⟩ := hk.seg (fun e => by rw [e] at hik; simp at hik)
      obtain ⟨ad2, c2, hv2, -, hseg2⟩ := hl.seg (fun e => by rw [e] at hil; simp at hil)
      cases hv2
      have hva : va = some ad := by cases hv; rfl
      subst hva
      have r1 : hcell h (elt ad i) = some (.int .i64 k[i]) := by rw [hseg i (by simpa using hik)]; simp [inV]
      have r2 : hcell h (elt ad2 i) = some (.int .i64 l[i]) := by rw [hseg2 i (by simpa using hil)]; simp [inV]
      by_cases he2 : k[i] = l[i]
      · simp (disch := omega) [r1, r2, he2]
        refine hX (i + 1) _ _ (by simp) ⟨hil, rfl, ?_⟩ (by omega)
        rw [List.take_succ_eq_append_getElem hik, List.take_succ_eq_append_getElem hil, he, he2]
      · simp (disch := omega) [r1, r2, he2]
        rw [decide_eq_false (fun e => he2 (by simp [e]))] at H
        exact H
    · obtain rfl : i = l.length := by omega
      simp (disch := omega)
      have : k = l := by
        rw [← hlen, List.take_length, hlen, List.take_length] at he
        exact he
      rw [decide_eq_true this] at H
      exact H
  · simp (disch := omega) [hlen]
    rw [decide_eq_false (fun e => hlen (by rw [e]))] at H
    exact H
set_option maxHeartbeats 2000000 in
theorem plain7_c {p : Nat} {v : Value} {ks : List Int} (hp : p ≤ 100000000000) (hk : Its h v ks) (hpos : ∀ k ∈ ks, 0 ≤ k) (H : ∀ h' w, Ext h h' → Its h' w (plainW p ks) → K w h') : CallsH Try.prog 18 #[.int .i64 p, v] h K ⟨⟩ := by
  refine n18_calls ?_
  unfold n18
  obtain ⟨va, vc, rfl, hvc⟩ := hk.form
  have hfew := hk.few
  simp (disch := omega)
  refine (⟨_, rfl⟩ : ∃ f, f = h.push (.cells (Array.replicate p (.int .i64 0)) 3)).elim fun h3 eh3 => ?_
  have e3 : Ext h h3 := by rw [eh3]; exact (by repeat' (first | (with_reducible exact Ext.refl _) | (with_reducible assumption) | (with_reducible refine push_ext ?_) | (with_reducible refine hset_ext ?_ ?_) | (with_reducible refine Ext.trans ?_ (by assumption)) | omega | (simp; done) | (simp; omega) | (refine Ext.size ?_) | (refine Nat.le_succ_of_le (Ext.size ?_))))
  have b3 : Blk h3 h.size (List.replicate p 0) := by rw [eh3]; exact Blk.new
  rw [show h.push (.cells (Array.replicate p (.int .i64 0)) 3) = h3 from eh3.symm]
  clear eh3
  refine loopX1 (α := Nat) (fun i => .int .i64 i) (fun i g => i ≤ p ∧ i ≤ ks.length ∧ Ext h g ∧ Blk g h.size (plainW p (ks.take i))) (fun i => p - i) 0 rfl ⟨Nat.zero_le _, Nat.zero_le _, e3, by rw [List.take_zero, plainW_nil]; exact b3⟩ ?_
  rintro i g ⟨hi, hi2, eg, bg⟩ X hX
  have fin : plainW p (ks.take i) = plainW p ks → K (.slice (some ⟨h.size, 0, none⟩) p p) g := fun e => by
    rw [e] at bg
    have := bg.its (by rw [plainW_len]; omega) (bits_i64 plainW_bit)
    rw [plainW_len] at this
    exact H _ _ eg this
  by_cases hip : i < p
  · by_cases hik : i < ks.length
    · obtain ⟨ad, c', hv, hc', hseg⟩ := (hk.ext eg).seg (fun e => by rw [e] at hik; simp at hik)
      cases hv
      have r1 : hcell g (elt ad i) = some (.int .i64 ks[i]) := by rw [hseg i (by simpa using hik)]; simp [inV]
      have hkp := hpos _ (List.getElem_mem hik)
      have hko := hk.ok _ (List.getElem_mem hik)
      obtain ⟨w1, w2⟩ := bg.cellE (i := i) (by rw [plainW_len]; omega)
      simp (disch := omega) [r1, w1, w2]
      refine hX (i + 1) _ _ (by simp) ⟨hip, hik, hset_ext eg (by simp), ?_⟩ (by omega)
      rw [← plainW_set hip hik]
      exact bg.setE
    · simp (disch := omega)
      exact fin (by rw [List.take_of_length_le (by omega)])
  · obtain rfl : i = p := by omega
    simp (disch := omega)
    exact fin plainW_take
end Go.Proofs.Ytdmcaaojapcbcaa
set_option linter.unusedSimpArgs false
set_option linter.unusedVariables false
namespace Go.Proofs.Ytdmcaaojapcbcaa
open Go.Vc
variable {K : Value → Heap → Prop} {h : Heap}

theorem Bo.few {o : Heap} {p pr : Nat} {s : St} {r : Rs} (I : Bo o h p s pr r 200 200) : s.pend ≤ 100000000000 := by
  have h1 : s.pend ≤ s.F.length * 200000000 := by
    have : s.pend = (s.F.map fun x => x.f.ps.length).sum := by unfold St.pend; rfl
    rw [this]
    refine sum_map_le fun x hx => ?_
    have h2 := I.st.pfew x hx
    have h3 := I.steps
    have h4 : x.f.ps.length = x.qs.length := by unfold Fh.f; simp
    rw [h4]
    omega
  have := I.st.few
  omega
set_option maxHeartbeats 4000000 in
theorem known7_c (H : ∀ h', Ext h h' → K (.bool true) h') : CallsH Try.prog 10 #[] h K ⟨⟩ := by
  refine n10_calls ?_
  unfold n10
  simp (disch := omega)
  refine cvSameS (h := h) (L := wxyz) (by decide) fun h1 o1 e1 => ?_
  simp (disch := omega)
  have b1 := o1.bytes
  refine (⟨_, rfl⟩ : ∃ f, f = h1.push (.cells #[str [97], .int .i64 510, .slice (some ⟨h.size, 0, none⟩) wxyz.length wxyz.length, .bool false] 89)).elim fun h2 eh2 => ?_
  have e2 : Ext h1 h2 := by rw [eh2]; exact (by repeat' (first | (with_reducible exact Ext.refl _) | (with_reducible assumption) | (with_reducible refine push_ext ?_) | (with_reducible refine hset_ext ?_ ?_) | (with_reducible refine Ext.trans ?_ (by assumption)) | omega | (simp; done) | (simp; omega) | (refine Ext.size ?_) | (refine Nat.le_succ_of_le (Ext.size ?_))))
  have hp : Pws h2 (.slice (some ⟨h1.size, 0, none⟩) 1 1) [⟨[97], 510, .slice (some ⟨h.size, 0, none⟩) wxyz.length wxyz.length, wxyz, false⟩] := by
    refine ⟨.inr ⟨⟨h1.size, 0, none⟩, 1, rfl, Nat.le_refl _, fun i hi => ?_⟩, fun x hx => ?_, (by decide : 1 < 9223372036854775808)⟩
    · obtain rfl : i = 0 := by simpa using hi
      refine ⟨_, rfl, ?_, rfl⟩
      rw [eh2, Nat.zero_mul, elt_zero]
      exact Seg_new (vs := [str [97], .int .i64 510, .slice (some ⟨h.size, 0, none⟩) wxyz.length wxyz.length, .bool false]) rfl
    · simp at hx; subst hx
      exact ⟨(by decide : ([97] : List UInt8).length < 9223372036854775808), (by unfold i64; decide : i64 510), b1.ext e2, (by decide : wxyz.length < 9223372036854775808)⟩
  rw [show h1.push (.cells #[str [97], .int .i64 510, .slice (some ⟨h.size, 0, none⟩) wxyz.length wxyz.length, .bool false] 89) = h2 from eh2.symm]
  clear eh2
  refine both_c hp (by decide : 1 ≤ 60) (fun x hx => by simp at hx; subst hx; exact ⟨(by decide : (510 : Int) ≤ 20000), (by decide : wxyz.length ≤ 40000)⟩) fun h3 p s pr r I al fst => ?_
  have hF := fst.2 rfl _ rfl (by decide : okName [97]) (by decide : (0 : Int) ≤ 510) rfl (by decide : wxyz ≠ []) (by decide : (510 : Int) + (wxyz.length : Int) ≤ 268435456)
  have hpd : s.pend = 2 := by
    have h1 : s.pend = ((s.F.map Fh.f).map fun f => f.ps.length).sum := by unfold St.pend; rw [List.map_map]; rfl
    rw [h1, hF]
    show (kF.ps.length + 0) = 2
    rw [kF_eq]; rfl
  have hrl : r.X.length = 1 := by
    rw [al.len]
    have := congrArg List.length hF
    simpa using this
  simp (disch := omega)
  refine Count_st I.st fun h4 e4 => ?_
  rw [if_neg (by omega), hpd]
  simp (disch := omega)
  refine At_st (I.st.ext e4) (by omega) (by omega) (by omega) (fun h5 e _ he => ?_) (fun h5 w e5 _ _ _ hw => ?_)
  · rw [hpd] at he; omega
  rw [hpd] at hw
  obtain ⟨wa, wc, rfl, hwc⟩ := hw.form
  simp (disch := omega)
  have b7 : Its (h5.push (.cells #[.int .i64 7] 3)) (.slice (some ⟨h5.size, 0, none⟩) 1 1) [7] := by
    have : Blk (h5.push (.cells #[.int .i64 7] 3)) h5.size [7] := get_pushed rfl
    exact this.its (by decide) (by decide)
  have e6 : Ext h5 (h5.push (.cells #[.int .i64 7] 3)) := (by repeat' (first | (with_reducible exact Ext.refl _) | (with_reducible assumption) | (with_reducible refine push_ext ?_) | (with_reducible refine hset_ext ?_ ?_) | (with_reducible refine Ext.trans ?_ (by assumption)) | omega | (simp; done) | (simp; omega) | (refine Ext.size ?_) | (refine Nat.le_succ_of_le (Ext.size ?_))))
  refine Number_st (((I.st.ext e4).ext e5).ext e6) (by omega) b7 (fun h7 _ hb => by cases hb) (fun h7 _ _ hb => by omega) (fun h7 e7 _ _ => ?_)
  rw [hpd]
  have hn : numW (plainW 2 [7]) = 2 := by decide
  rw [hn]
  have I7 := (((I.of_ext e4 (Nat.le_refl _) (Nat.le_refl _)).of_ext e5 (Nat.le_refl _) (Nat.le_refl _)).of_ext e6 (Nat.le_refl _) (Nat.le_refl _)).of_ext e7 (Nat.le_refl _) (Nat.le_refl _)
  simp (disch := omega)
  have e8 : Ext h7 (h7.push (.cells #[.int .i64 1, .int .i64 1] 3)) := (by repeat' (first | (with_reducible exact Ext.refl _) | (with_reducible assumption) | (with_reducible refine push_ext ?_) | (with_reducible refine hset_ext ?_ ?_) | (with_reducible refine Ext.trans ?_ (by assumption)) | omega | (simp; done) | (simp; omega) | (refine Ext.size ?_) | (refine Nat.le_succ_of_le (Ext.size ?_))))
  have b8 : Its (h7.push (.cells #[.int .i64 1, .int .i64 1] 3)) (.slice (some ⟨h7.size, 0, none⟩) 2 2) [1, 1] := by
    have : Blk (h7.push (.cells #[.int .i64 1, .int .i64 1] 3)) h7.size [1, 1] := get_pushed rfl
    exact this.its (by decide) (by decide)
  refine same7_c (((hw.ext e6).ext e7).ext e8) b8 ?_
  have hbw : decide (bitsW 2 3 = [1, 1]) = true := by decide
  rw [hbw]
  have I8 := I7.of_ext e8 (Nat.le_refl _) (Nat.le_refl _)
  obtain ⟨sa, sc, hsv, hsc⟩ := I8.rs.form
  have c0 : hcell (h7.push (.cells #[.int .i64 1, .int .i64 1] 3)) ⟨pr, 0, none⟩ = some (.slice sa r.X.length sc) := hsv ▸ cellOf (i := 0) I8.rs.cells rfl
  unfold ptrV
  simp (disch := omega) [c0, hrl]
  exact H _ ((e1.trans e2).trans I8.ext)
end Go.Proofs.Ytdmcaaojapcbcaa
set_option linter.unusedSimpArgs false
set_option linter.unusedVariables false
namespace Go.Proofs.Ytdmcaaojapcbcaa
open Go.Vc
variable {K : Value → Heap → Prop} {h : Heap}

/-- Is a number behind the last one? -/
def pastN (p n : Nat) : Bool := decide (p ≤ 62) && decide (n = 2 ^ p)
set_option maxHeartbeats 2000000 in
theorem numbers_c {p : Nat} {y : Value} (Φ : Nat → Heap → Prop) (Ψ : Heap → Prop) (B : Nat) (hB : B ≤ 1000) (hB0 : 0 < B) (hp : p ≤ 100000000000) (h0 : Φ 0 h)
    (round : ∀ n g (X : Value → Heap → Prop), n < B → (p ≤ 62 → n < 2 ^ p) → Φ n g → (∀ g', Φ (n + 1) g' → n + 1 < B → X (.bool true) g') → (∀ g', Ψ g' → X (.bool false) g') → InvokeH Try.prog y #[.int .i64 n] g X ⟨⟩)
    (hend : ∀ g, p ≤ 62 → 2 ^ p < B → Φ (2 ^ p) g → K (.tuple #[]) g) (hstop : ∀ g, Ψ g → K (.tuple #[]) g) : CallsH Try.prog 72 #[.int .i64 p, y] h K ⟨⟩ := by
  refine n72_calls ?_
  unfold n72
  have hpos : ∀ q, 0 < 2 ^ q := fun q => Nat.pow_pos (by omega)
  refine loopX1 (α := Nat) (fun n => .int .i64 n) (fun n g => n < B ∧ (p ≤ 62 → n < 2 ^ p) ∧ Φ n g) (fun n => B - n) 0 rfl ⟨hB0, fun _ => hpos p, h0⟩ ?_
  rintro n g ⟨hn, hl, hφ⟩ X hX
  refine round n g _ hn hl hφ (fun g' h1 h2 => ?_) (fun g' h1 => ?_)
  · by_cases hp62 : p ≤ 62
    · obtain ⟨W, hW⟩ : ∃ W, 2 ^ p = W := ⟨_, rfl⟩
      have hWl : W ≤ 4611686018427387904 := hW ▸ Nat.le_trans (Nat.pow_le_pow_right (by omega) hp62) (by decide)
      have hl1 := hl hp62
      rw [hW] at hl1 hl hend
      simp (disch := omega)
      rw [Hp_shlW (b := p) (w := W) hW (by omega) (by omega) (by omega)]
      by_cases he : n + 1 = W
      · have he' : (n : Int) + 1 = (W : Int) := by omega
        simp (disch := omega) [he']
        refine hend _ hp62 (by omega) (he ▸ h1)
      · have he' : ¬ (n : Int) + 1 = (W : Int) := by omega
        simp (disch := omega) [he']
        refine hX (n + 1) _ _ ?_ ⟨h2, fun _ => by omega, h1⟩ (by omega)
        congr 1; omega
    · simp (disch := omega)
      refine hX (n + 1) _ _ ?_ ⟨h2, fun e => absurd e hp62, h1⟩ (by omega)
      congr 1; omega
  · simp (disch := omega)
    exact hstop _ h1
theorem All_st {p : Nat} {s : St} (a : StAt h p s) (H : ∀ h' b, Ext h h' → h'[b]? = some (.cells #[.int .i64 s.pend] 3) → K (.func (.func 71) #[] #[ptrV b]) h') : CallsH Try.prog 31 #[ptrV p] h K ⟨⟩ := by
  refine n31_calls ?_
  unfold n31
  refine none_st a fun h1 e1 => ?_
  simp (disch := omega)
  refine Pending_c (a.ext e1) fun h2 e2 => ?_
  simp (disch := omega)
  refine H _ h2.size (e1.trans (e2.trans (by repeat' (first | (with_reducible exact Ext.refl _) | (with_reducible assumption) | (with_reducible refine push_ext ?_) | (with_reducible refine hset_ext ?_ ?_) | (with_reducible refine Ext.trans ?_ (by assumption)) | omega | (simp; done) | (simp; omega) | (refine Ext.size ?_) | (refine Nat.le_succ_of_le (Ext.size ?_)))))) (obj_set (arr := #[.int .i64 0]) (get_pushed rfl))
theorem Images_st {p : Nat} {s : St} (a : StAt h p s) (H : ∀ h' b p' s', Ext h h' → h'[b]? = some (.cells #[ptrV p'] 26) → StAt h' p' s' → (s'.F.map Fh.f).Perm (s.F.map Fh.f) → (∀ b, s'.foot p' b → h.size ≤ b) → (∀ x ∈ s'.F, ∀ q ∈ x.qs, ∃ y ∈ s.F, q ∈ y.qs) → K (.func (.func 75) #[] #[ptrV b]) h') : CallsH Try.prog 32 #[ptrV p] h K ⟨⟩ := by
  refine n32_calls ?_
  unfold n32
  refine none_st a fun h1 e1 => ?_
  simp (disch := omega)
  refine Copy_c2 (a.ext e1) fun h2 p' s' e2 st hp _ _ _ hf hq => ?_
  unfold ptrV
  simp (disch := omega)
  have e3 : Ext h2 (hset (h2.push (.cells #[.pointer none] 26)) ⟨h2.size, 0, none⟩ (ptrV p')) := (by repeat' (first | (with_reducible exact Ext.refl _) | (with_reducible assumption) | (with_reducible refine push_ext ?_) | (with_reducible refine hset_ext ?_ ?_) | (with_reducible refine Ext.trans ?_ (by assumption)) | omega | (simp; done) | (simp; omega) | (refine Ext.size ?_) | (refine Nat.le_succ_of_le (Ext.size ?_))))
  exact H _ h2.size p' s' (e1.trans (e2.trans e3)) (obj_set (arr := #[.pointer none]) (get_pushed rfl)) (st.ext e3) hp (fun b hb => by have := hf b hb; have := e1.size; omega) hq
end Go.Proofs.Ytdmcaaojapcbcaa
