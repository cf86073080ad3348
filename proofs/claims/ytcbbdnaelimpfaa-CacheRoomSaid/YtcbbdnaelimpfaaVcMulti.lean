/- Rules for slices of elements of several cells, and for arrays behind pointers. -/
import Derived.Test.YtcbbdnaelimpfaaVcRange
namespace Go.Vc
open Go
set_option linter.unusedSimpArgs false
set_option linter.unusedVariables false
section
variable {P : Program} {q : Bool} {K : Value → Heap → Prop} {h : Heap}

/-- An array of n elements of s cells. -/
def arrS (P : Program) (t n s : Nat) : Bool := match P.underlying t with
  | some (.array m e) => match P.info? e with
    | some i => Nat.beq i.size s && Nat.beq m n
    | none => false
  | _ => false
theorem arrS_spec {t n s : Nat} (ht : arrS P t n s = true) : ∃ e i, P.underlying t = some (.array n e) ∧ P.info? e = some i ∧ i.size = s := by
  unfold arrS at ht
  split at ht
  · rename_i m e he
    cases hi : P.info? e with
    | none => rw [hi] at ht; cases ht
    | some i =>
      rw [hi] at ht
      simp only [Bool.and_eq_true] at ht
      obtain rfl := Nat.eq_of_beq_eq_true ht.2
      exact ⟨e, i, he, hi, Nat.eq_of_beq_eq_true ht.1⟩
  · cases ht
theorem Hp_indexArr {t len s : Nat} {a : Addr} {k : IntKind} {n : Int} (ht : arrS P t len s = true) (n0 : 0 ≤ n) (n1 : n < len) :
    Hp P q (Instr.indexAt t (.pointer (some a)) (.int k n)) K h ⟨⟩ ↔ ValT n.toNat (fun j => K (.pointer (some (elt a (j * s)))) h) ⟨⟩ := by
  obtain ⟨e, i, ht, hi, hs⟩ := arrS_spec ht
  rw [ValT_iff, Hp_iff]
  unfold Instr.indexAt
  rw [hp_bind', hp_asIntOf]
  simp only
  rw [hp_bind', hp_underlying ht]
  simp only
  rw [show Instr.sureAddr (.pointer (some a)) = pure a from rfl, pure_bind, hp_bind', hp_pure, hp_bind', hp_underlying ht]
  simp only
  rw [if_pos ⟨n0, n1⟩, hp_bind', hp_sizeOf hi, hs]
  exact Iff.rfl
theorem Hp_indexAtS {t s : Nat} {a : Addr} {len cap : Nat} {k : IntKind} {n : Int} (ht : slS P t s = true) (n0 : 0 ≤ n) (n1 : n < len) :
    Hp P q (Instr.indexAt t (.slice (some a) len cap) (.int k n)) K h ⟨⟩ ↔ ValT n.toNat (fun j => K (.pointer (some (elt a (j * s)))) h) ⟨⟩ := by
  obtain ⟨e, i, ht, hi, hs⟩ := slS_spec ht
  rw [ValT_iff, Hp_iff]
  unfold Instr.indexAt
  rw [hp_bind', hp_asIntOf]
  simp only
  rw [hp_bind', hp_underlying ht]
  simp only
  rw [hp_bind', hp_pure, hp_bind', hp_underlying ht]
  simp only
  rw [if_pos ⟨n0, n1⟩, hp_bind', hp_sizeOf hi, hs]
  exact Iff.rfl

/-- Where a part of a slice begins. -/
def subS (s : Nat) (a : Addr) (lo c : Nat) : Addr := if c = lo then a else elt a (lo * s)
@[simp] theorem subS_blk (s : Nat) (a : Addr) (lo c : Nat) : (subS s a lo c).block = a.block := by unfold subS; split <;> simp
@[simp] theorem subS_zero (s : Nat) (a : Addr) (c : Nat) : subS s a 0 c = a := by unfold subS; split <;> simp
theorem subS_lt {s : Nat} {a : Addr} {lo c : Nat} (h : lo < c) : subS s a lo c = elt a (lo * s) := by unfold subS; rw [if_neg (by omega)]
theorem Hp_sliceS {t s : Nat} {a : Addr} {len cap : Nat} {lo hi : Option Value} (ht : slS P t s = true) (nl : isNum lo = true) (nh : isNum hi = true)
    (l0 : 0 ≤ lowOf lo) (l1 : lowOf lo ≤ highOf len hi) (l2 : highOf len hi ≤ cap) :
    Hp P q (Instr.sliceAt t (.slice (some a) len cap) lo hi none) K h ⟨⟩ ↔
      ValT (lowOf lo).toNat (fun l => ValT (highOf len hi).toNat (fun r => K (.slice (some (subS s a l cap)) (r - l) (cap - l)) h) ⟨⟩) ⟨⟩ := by
  obtain ⟨e, i, ht, he, hs⟩ := slS_spec ht
  rw [Hp_iff, ValT_iff, ValT_iff]
  unfold Instr.sliceAt
  rw [hp_bind', hp_underlying ht]
  simp only
  unfold Instr.slice
  rw [hp_bind', hp_underlying ht]
  simp only
  rw [sliceBounds_eq nl nh l0 l1 l2, hp_bind', hp_pure, hp_bind', hp_sizeOf he, hs]
  unfold subS
  split <;> exact Iff.rfl
theorem Hp_slsNN {t s : Nat} {a : Addr} {len cap : Nat} (ht : slS P t s = true) (hc : len ≤ cap) : Hp P q (Instr.sliceAt t (.slice (some a) len cap) none none none) K h ⟨⟩ ↔ K (.slice (some a) len cap) h := by
  rw [Hp_sliceS ht rfl rfl (by simp [lowOf]) (by simp [lowOf, highOf]) (by simpa [highOf] using hc)]
  simp [lowOf, highOf]
theorem Hp_slsLN {t s : Nat} {a : Addr} {len cap : Nat} {k : IntKind} {lo : Int} (ht : slS P t s = true) (h0 : 0 ≤ lo) (h1 : lo ≤ len) (hc : len ≤ cap) :
    Hp P q (Instr.sliceAt t (.slice (some a) len cap) (some (.int k lo)) none none) K h ⟨⟩ ↔ ValT lo.toNat (fun l => K (.slice (some (subS s a l cap)) (len - l) (cap - l)) h) ⟨⟩ := by
  rw [Hp_sliceS ht rfl rfl (by simpa [lowOf] using h0) (by simpa [lowOf, highOf] using h1) (by simpa [highOf] using hc)]
  simp [lowOf, highOf]
theorem Hp_slsNH {t s : Nat} {a : Addr} {len cap : Nat} {k : IntKind} {hi : Int} (ht : slS P t s = true) (h1 : 0 ≤ hi) (h2 : hi ≤ cap) :
    Hp P q (Instr.sliceAt t (.slice (some a) len cap) none (some (.int k hi)) none) K h ⟨⟩ ↔ ValT hi.toNat (fun r => K (.slice (some a) r cap) h) ⟨⟩ := by
  rw [Hp_sliceS ht rfl rfl (by simp [lowOf]) (by simpa [lowOf, highOf] using h1) (by simpa [highOf] using h2)]
  simp [lowOf, highOf]
theorem Hp_slsLH {t s : Nat} {a : Addr} {len cap : Nat} {k k' : IntKind} {lo hi : Int} (ht : slS P t s = true) (h0 : 0 ≤ lo) (h1 : lo ≤ hi) (h2 : hi ≤ cap) :
    Hp P q (Instr.sliceAt t (.slice (some a) len cap) (some (.int k lo)) (some (.int k' hi)) none) K h ⟨⟩ ↔ ValT lo.toNat (fun l => ValT hi.toNat (fun r => K (.slice (some (subS s a l cap)) (r - l) (cap - l)) h) ⟨⟩) ⟨⟩ := by
  rw [Hp_sliceS ht rfl rfl (by simpa [lowOf] using h0) (by simpa [lowOf, highOf] using h1) (by simpa [highOf] using h2)]
  simp [lowOf, highOf]

theorem Hp_makeS {t e s by_ : Nat} {n c : Int} {z : Value} {zs : List Value} (ht : slT P t e s by_ = true) (hz : zeroOf P e = some z) (hzs : z.cells = zs.toArray) (n0 : 0 ≤ n) (nc : n ≤ c) (hc : c * by_ ≤ 281474976710656) (hc63 : c < 9223372036854775808)
    : Hp P false (Instr.makeSlice t (.int .i64 n) (.int .i64 c)) K h ⟨⟩ ↔ ValT n.toNat (fun n => ValT c.toNat (fun c => K (.slice (some ⟨h.size, 0, none⟩) n c) (h.push (.cells (List.replicate c zs).flatten.toArray e))) ⟨⟩) ⟨⟩ := by
  obtain ⟨i, z', hu, hi, hsz, hby, hz', hz's⟩ := slT_spec ht
  have hzz : z' = z := by
    unfold zeroOf at hz
    rw [hi] at hz
    simp only at hz
    rw [hz'] at hz; cases hz; rfl
  subst hzz
  have hlen : zs.length = s := by rw [hzs] at hz's; simpa using hz's
  rw [Hp_iff, ValT_iff, ValT_iff]
  unfold Instr.makeSlice
  rw [hp_bind', hp_underlying hu]
  simp only
  rw [hp_bind', hp_asInt, hp_bind', hp_asInt, hp_bind', hp_info hi, hby]
  rw [wrap_i64 (by omega) (by omega), wrap_i64 (by omega) (by omega)]
  have e1 : (2 : Int) ^ 48 = 281474976710656 := by decide
  have hcb : by_ * c ≤ 281474976710656 := by rw [Int.mul_comm]; exact hc
  have ec : (decide (c < 0) || decide ((by_ : Int) * c > 2 ^ 48)) = false := by
    rw [e1]
    simp only [Bool.or_eq_false_iff, decide_eq_false_iff_not]
    omega
  rw [if_neg (by rw [ec]; simp; omega)]
  rw [hp_bind', hp_askRoom, hp_bind', hp_sizeOf hi, hsz]
  have fin : ∀ (zero : Array Value), ((Array.range (c.toNat * s)).map fun x => zero[x % zero.size]!) = (List.replicate c.toNat zs).flatten.toArray →
      (hp P false (do let a ← newRow e ((Array.range (c.toNat * s)).map fun x => zero[x % zero.size]!); pure (.slice (some a) n.toNat c.toNat)) K h ↔ K (.slice (some ⟨h.size, 0, none⟩) n.toNat c.toNat) (h.push (.cells (List.replicate c.toNat zs).flatten.toArray e))) := by
    intro zero he
    rw [he, hp_bind']
    show (_ = _ ∧ K _ _) ↔ _
    simp
  have hflat : ∀ m, (List.replicate m zs).flatten.length = m * s := by intro m; simp [hlen]
  split
  · rename_i h0
    rw [pure_bind]
    refine fin #[] ?_
    apply Array.ext
    · simp [hlen]
    · intro j h1 h2; simp [h0] at h1
  · rw [hp_bind', hp_zeroValue hi hz', pure_bind, hzs]
    refine fin _ ?_
    apply Array.ext
    · simp [hlen]
    · intro j h1 h2
      have h3 : j < c.toNat * s := by simpa using h1
      have hs : 0 < s := by
        rcases Nat.eq_zero_or_pos s with e | e
        · rw [e] at h3; simp at h3
        · exact e
      have key : ∀ (m j : Nat) (hj : j < m * s), (List.replicate m zs).flatten[j]? = some (zs[j % s]'(by rw [hlen]; exact Nat.mod_lt _ hs)) := by
        intro m
        induction m with
        | zero => intro j hj; omega
        | succ m ih =>
          intro j hj
          rw [List.replicate_succ, List.flatten_cons]
          by_cases hjs : j < s
          · rw [List.getElem?_append_left (by omega), List.getElem?_eq_getElem (by omega)]
            simp only [Nat.mod_eq_of_lt hjs]
          · have hjm : j - s < m * s := by rw [Nat.add_mul] at hj; omega
            have he : (j - s) % s = j % s := by rw [← Nat.mod_eq_sub_mod (by omega)]
            have hi := ih (j - s) hjm
            rw [List.getElem?_append_right (by omega), show j - zs.length = j - s by omega, hi]
            simp only [he]
      simp only [Array.getElem_map, Array.getElem_range]
      have hk := key c.toNat j h3
      rw [List.getElem?_eq_getElem (by rw [hflat]; exact h3)] at hk
      simp only [Option.some.injEq] at hk
      have hm : j % s < zs.length := by rw [hlen]; exact Nat.mod_lt _ hs
      simp only [List.getElem_toArray, hk, List.size_toArray, hlen]
      simp [hm]
end
end Go.Vc
