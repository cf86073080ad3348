/- Tables: reading a list off bytes. -/
import Derived.Test.YtgnmjcljljfldaaTab4
set_option linter.unusedSimpArgs false
set_option linter.unusedVariables false
namespace Go.Proofs.Ytgnmjcljljfldaa
open Go.Vc
variable {K : Value → Heap → Prop} {h : Heap}

/-- A number that is read: its value, and whether it is fine. -/
def numV (l : List UInt8) (p n : Nat) : Int × Bool := (IntKind.i64.wrap (getR l p n).1, decide ((getR l p n).2 = 0) && decide ((getR l p n).1 < 4611686018427387904))
/-- A reader. -/
def Rd (h : Heap) (B : Nat) (v : Value) (p : Nat) (f : Bool) : Prop := Cel h B 0 v ∧ Cel h B 1 (.int .i64 p) ∧ Cel h B 2 (.bool f)
theorem Rd.mod {S : Nat → Prop} {h' : Heap} {B : Nat} {v : Value} {p : Nat} {f : Bool} (r : Rd h B v p f) (m : Mod S h h') (hS : ¬ S B) : Rd h' B v p f := ⟨r.1.mod m hS, r.2.1.mod m hS, r.2.2.mod m hS⟩
theorem Rd.ext {h' : Heap} {B : Nat} {v : Value} {p : Nat} {f : Bool} (r : Rd h B v p f) (e : Ext h h') : Rd h' B v p f := ⟨r.1.ext e, r.2.1.ext e, r.2.2.ext e⟩

theorem getR_in {l : List UInt8} {p n : Nat} (hn : n = 1 ∨ n = 4 ∨ n = 8) (hp : p + n ≤ l.length) : getR l p n = (leN ((l.drop p).take n), 0) := by
  unfold getR
  rw [if_neg (by omega), if_pos (by omega)]
  simp
theorem getR_out {l : List UInt8} {p n : Nat} (hn : n = 1 ∨ n = 4 ∨ n = 8) (hp : ¬ p + n ≤ l.length) : getR l p n = (0, 4) := by
  unfold getR
  rw [if_neg (by omega), if_neg (by omega)]

theorem RdNum_c {B : Nat} {v : Value} {l : List UInt8} {p n : Nat} {f : Bool} (hB : Bytes h v l) (hl : l.length < 1000000000) (hR : Rd h B v p f) (hp : p < 1000000000) (hn : n = 1 ∨ n = 4 ∨ n = 8)
    (H : ∀ h', Mod (· = B) h h' → Rd h' B v (p + n) (f && (numV l p n).2) → K (.int .i64 (numV l p n).1) h') :
    CallsH Try.prog 82 #[.pointer (some ⟨B, 0, none⟩), .int .i64 n] h K ⟨⟩ := by
  obtain ⟨c0, c1, c2⟩ := hR
  have hx : 0 ≤ (getR l p n).1 ∧ (getR l p n).1 < 18446744073709551616 := by
    by_cases hp : p + n ≤ l.length
    · rw [getR_in hn hp]
      have := leN_lt8 (l := (l.drop p).take n) (by simp; omega)
      dsimp only
      omega
    · rw [getR_out hn hp]; decide
  refine n82_calls ?_
  unfold n82
  simp (disch := omega) [c0.get, c1.get, c2.get]
  refine Get_c hB (by omega) ?_
  unfold numV at H
  generalize getR l p n = X at *
  obtain ⟨x, e⟩ := X
  dsimp only at hx H
  have hlt := c0.lt
  have fin : ∀ g : Bool, g = (f && (decide (e = 0) && decide (x < 4611686018427387904))) → ∀ h', h' = hset (hset h ⟨B, 1, none⟩ (.int .i64 (p + n))) ⟨B, 2, none⟩ (.bool g) → K (.int .i64 (IntKind.i64.wrap x)) h' := by
    rintro g rfl h' rfl
    refine H _ ((by repeat' (first | (with_reducible exact Mod.refl _ _) | (with_reducible assumption) | (with_reducible refine Mod.pushIn ?_) | (with_reducible refine Mod.setIn ?_ ?_) | (with_reducible refine Mod.putIn ?_ ?_) | (with_reducible refine Mod.extIn ?_ (by assumption)) | (exact Or.inr (by first | omega | (simp; done) | (simp; omega))) | (exact Or.inl (by first | (simp; done) | (simp; omega)))))) ⟨?_, ?_, ?_⟩
    · simp (disch := omega) [Cel_iff, c0.get, c0.free]
    · simp (disch := omega) [Cel_iff, c1.get, c1.free]
    · simp (disch := omega) [Cel_iff, c2.get, c2.free]
  by_cases he : e = 0
  · by_cases hx2 : x < 4611686018427387904
    · have hx3 : (x : Int) < 4611686018427387904 := by omega
      rw [wrap_i64 (by omega) (by omega)] at fin
      cases f <;> simp (disch := omega) [c0.get, c1.get, c2.get, c0.free, c1.free, c2.free, he, hx3, Try.cvw45_2] <;> first | exact fin true (by simp [he, hx2]) _ rfl | exact fin false (by simp [he, hx2]) _ rfl
    · have hx3 : ¬ (x : Int) < 4611686018427387904 := by omega
      cases f <;> simp (disch := omega) [c0.get, c1.get, c2.get, c0.free, c1.free, c2.free, he, hx3, Try.cvw45_2] <;> first | exact fin true (by simp [he, hx2]) _ rfl | exact fin false (by simp [he, hx2]) _ rfl
  · cases f <;> simp (disch := omega) [c0.get, c1.get, c2.get, c0.free, c1.free, c2.free, he, Try.cvw45_2] <;> first | exact fin true (by simp [he]) _ rfl | exact fin false (by simp [he]) _ rfl

/-- A name that is read. -/
def nameV (l : List UInt8) (p : Nat) (f : Bool) : List UInt8 × Nat × Bool :=
  if f = true ∧ (numV l p 1).2 = true ∧ (numV l p 1).1 ≤ (l.length : Int) - (p + 1 : Nat) then ((l.drop (p + 1)).take (numV l p 1).1.toNat, p + 1 + (numV l p 1).1.toNat, true) else ([], p + 1, false)
theorem numV1 {l : List UInt8} {p : Nat} : (∃ b : UInt8, p < l.length ∧ l[p]? = some b ∧ numV l p 1 = ((b.toNat : Int), true)) ∨ (¬ p < l.length ∧ numV l p 1 = (0, false)) := by
  by_cases hp : p < l.length
  · left
    refine ⟨l[p], hp, List.getElem?_eq_getElem hp, ?_⟩
    unfold numV
    have := getR_in (l := l) (p := p) (n := 1) (.inl rfl) (by omega)
    rw [show ((1 : Nat) : Int) = 1 from rfl] at *
    rw [this, List.drop_eq_getElem_cons hp]
    have hb := (l[p]).toNat_lt
    simp only [List.take_succ_cons, List.take_zero, leN]
    rw [wrap_i64 (by omega) (by omega)]
    simp; omega
  · right
    refine ⟨hp, ?_⟩
    unfold numV
    have := getR_out (l := l) (p := p) (n := 1) (.inl rfl) (by omega)
    rw [show ((1 : Nat) : Int) = 1 from rfl] at *
    rw [this]
    decide

theorem RdName_c {B : Nat} {v : Value} {l : List UInt8} {p : Nat} {f : Bool} (hB : Bytes h v l) (hl : l.length < 100000000) (hR : Rd h B v p f) (hp : p < 500000000) (hvB : ∀ b, blkV v = some b → l ≠ [] → b ≠ B)
    (H : ∀ h', Mod (· = B) h h' → Rd h' B v (nameV l p f).2.1 (nameV l p f).2.2 → K (str (nameV l p f).1) h') :
    CallsH Try.prog 81 #[.pointer (some ⟨B, 0, none⟩)] h K ⟨⟩ := by
  refine n81_calls ?_
  unfold n81
  refine RdNum_c (n := 1) hB (by omega) hR (by omega) (.inl rfl) fun h1 m1 hR1 => ?_
  obtain ⟨c0, c1, c2⟩ := hR1
  have hB1 : Bytes h1 v l := hB.modX m1 (fun b hn hb _ => hvB b hb hn)
  have hlt := c0.lt
  obtain ⟨o, q0, rfl⟩ := hB1.form
  unfold nameV at H
  rcases numV1 (l := l) (p := p) with ⟨b, hpl, hb, hv⟩ | ⟨hpl, hv⟩
  · have hbl := b.toNat_lt
    rw [hv] at H c2 ⊢
    dsimp only at H c2 ⊢
    obtain ⟨a, rfl, -, hc, hA⟩ := hB1.at (by omega)
    cases f
    · rw [if_neg (by simp)] at H
      simp only [Bool.false_and] at c2
      simp (disch := omega) [c0.get, c1.get, c2.get, c0.free, c1.free, c2.free]
      refine H _ ((by repeat' (first | (with_reducible exact Mod.refl _ _) | (with_reducible assumption) | (with_reducible refine Mod.pushIn ?_) | (with_reducible refine Mod.setIn ?_ ?_) | (with_reducible refine Mod.putIn ?_ ?_) | (with_reducible refine Mod.extIn ?_ (by assumption)) | (exact Or.inr (by first | omega | (simp; done) | (simp; omega))) | (exact Or.inl (by first | (simp; done) | (simp; omega)))))) ⟨?_, ?_, ?_⟩
      all_goals simp (disch := omega) [Cel_iff, c0.get, c0.free, c1.get, c1.free, c2.get, c2.free]
    · simp only [Bool.true_and] at c2
      by_cases hle : (b.toNat : Int) ≤ (l.length : Int) - (p + 1 : Nat)
      · rw [if_pos ⟨rfl, rfl, hle⟩] at H
        have hle2 : p + 1 + b.toNat ≤ l.length := by omega
        have hS : Bytes h1 (.slice (some (sub a (p + 1) q0)) b.toNat (q0 - (p + 1))) ((l.drop (p + 1)).take b.toNat) := by
          refine .inr ⟨_, _, by congr 1; simp; omega, by simp; omega, ?_⟩
          have := hA.part (p + 1) (p + 1 + b.toNat) q0 (by omega) hle2 hc
          rwa [List.drop_take, Nat.add_sub_cancel_left] at this
        have t1 : ((p : Int) + 1 + b.toNat).toNat - (p + 1) = b.toNat := by omega
        simp (disch := omega) [c0.get, c1.get, c2.get, c0.free, c1.free, c2.free, t1, Try.cv26_9 hS]
        refine H _ ((by repeat' (first | (with_reducible exact Mod.refl _ _) | (with_reducible assumption) | (with_reducible refine Mod.pushIn ?_) | (with_reducible refine Mod.setIn ?_ ?_) | (with_reducible refine Mod.putIn ?_ ?_) | (with_reducible refine Mod.extIn ?_ (by assumption)) | (exact Or.inr (by first | omega | (simp; done) | (simp; omega))) | (exact Or.inl (by first | (simp; done) | (simp; omega)))))) ⟨?_, ?_, ?_⟩
        all_goals simp (disch := omega) [Cel_iff, c0.get, c0.free, c1.get, c1.free, c2.get, c2.free]
      · rw [if_neg (fun x => hle x.2.2)] at H
        simp (disch := omega) [c0.get, c1.get, c2.get, c0.free, c1.free, c2.free]
        refine H _ ((by repeat' (first | (with_reducible exact Mod.refl _ _) | (with_reducible assumption) | (with_reducible refine Mod.pushIn ?_) | (with_reducible refine Mod.setIn ?_ ?_) | (with_reducible refine Mod.putIn ?_ ?_) | (with_reducible refine Mod.extIn ?_ (by assumption)) | (exact Or.inr (by first | omega | (simp; done) | (simp; omega))) | (exact Or.inl (by first | (simp; done) | (simp; omega)))))) ⟨?_, ?_, ?_⟩
        all_goals simp (disch := omega) [Cel_iff, c0.get, c0.free, c1.get, c1.free, c2.get, c2.free]
  · rw [hv] at H c2 ⊢
    dsimp only at H c2 ⊢
    rw [if_neg (by simp)] at H
    simp only [Bool.and_false] at c2
    simp (disch := omega) [c0.get, c1.get, c2.get, c0.free, c1.free, c2.free]
    refine H _ ((by repeat' (first | (with_reducible exact Mod.refl _ _) | (with_reducible assumption) | (with_reducible refine Mod.pushIn ?_) | (with_reducible refine Mod.setIn ?_ ?_) | (with_reducible refine Mod.putIn ?_ ?_) | (with_reducible refine Mod.extIn ?_ (by assumption)) | (exact Or.inr (by first | omega | (simp; done) | (simp; omega))) | (exact Or.inl (by first | (simp; done) | (simp; omega)))))) ⟨?_, ?_, ?_⟩
    all_goals simp (disch := omega) [Cel_iff, c0.get, c0.free, c1.get, c1.free, c2.get, c2.free]

/-- A snapshot that is read. -/
def snapV (l : List UInt8) (p : Nat) (f : Bool) : Sn × Nat × Bool :=
  let q := (nameV l p f).2.1
  (⟨(nameV l p f).1, (numV l q 8).1, (numV l (q + 8) 4).1, (numV l (q + 8 + 4) 8).1⟩, q + 8 + 4 + 8, ((((nameV l p f).2.2 && (numV l q 8).2) && (numV l (q + 8) 4).2) && (numV l (q + 8 + 4) 8).2))

theorem nameV_le {l : List UInt8} {p : Nat} {f : Bool} : p + 1 ≤ (nameV l p f).2.1 ∧ (nameV l p f).2.1 ≤ p + 1 + 256 ∧ ((nameV l p f).2.2 = true → (nameV l p f).2.1 ≤ l.length ∧ f = true) := by
  unfold nameV
  rcases numV1 (l := l) (p := p) with ⟨b, hpl, hb, hv⟩ | ⟨hpl, hv⟩
  · have := b.toNat_lt
    rw [hv]
    split
    · rename_i h
      dsimp only at h ⊢
      simp only [Int.toNat_natCast]
      refine ⟨by omega, by omega, fun _ => ⟨by omega, h.1⟩⟩
    · simp
  · rw [hv]
    simp

theorem RdSnap_c {B : Nat} {v : Value} {l : List UInt8} {p : Nat} {f : Bool} (hB : Bytes h v l) (hl : l.length < 100000000) (hR : Rd h B v p f) (hp : p < 400000000) (hvB : ∀ b, blkV v = some b → l ≠ [] → b ≠ B)
    (H : ∀ h', Mod (· = B) h h' → Rd h' B v (snapV l p f).2.1 (snapV l p f).2.2 → K (.agg (snapV l p f).1.cells.toArray) h') :
    CallsH Try.prog 43 #[.pointer (some ⟨B, 0, none⟩)] h K ⟨⟩ := by
  have hlt := hR.1.lt
  have hq := nameV_le (l := l) (p := p) (f := f)
  unfold snapV at H
  simp only [Sn.cells] at H
  refine n43_calls ?_
  unfold n43
  have e0 : Ext h (h.push (.cells #[str [], .int .i64 0, .int .i64 0, .int .i64 0] 61)) := (by repeat' (first | (with_reducible exact Ext.refl _) | (with_reducible assumption) | (with_reducible refine push_ext ?_) | (with_reducible refine hset_ext ?_ ?_) | (with_reducible refine Ext.trans ?_ (by assumption)) | omega | (simp; done) | (simp; omega) | (refine Ext.size ?_) | (refine Nat.le_succ_of_le (Ext.size ?_))))
  simp (disch := omega)
  refine RdName_c (hB.ext e0) hl (hR.ext e0) (by omega) hvB fun h1 m1 hR1 => ?_
  have M1 : Mod (· = B) h h1 := (Mod.of_ext e0).trans m1 (fun b _ e => e)
  have s1 := m1.size
  simp at s1
  have z0 : Cel h1 h.size 0 (str []) := Cel.mod (h := h.push (.cells #[str [], .int .i64 0, .int .i64 0, .int .i64 0] 61)) ⟨by simp, by simp⟩ m1 (by omega)
  have z1 : Cel h1 h.size 1 (.int .i64 0) := Cel.mod (h := h.push (.cells #[str [], .int .i64 0, .int .i64 0, .int .i64 0] 61)) ⟨by simp, by simp⟩ m1 (by omega)
  have z2 : Cel h1 h.size 2 (.int .i64 0) := Cel.mod (h := h.push (.cells #[str [], .int .i64 0, .int .i64 0, .int .i64 0] 61)) ⟨by simp, by simp⟩ m1 (by omega)
  have z3 : Cel h1 h.size 3 (.int .i64 0) := Cel.mod (h := h.push (.cells #[str [], .int .i64 0, .int .i64 0, .int .i64 0] 61)) ⟨by simp, by simp⟩ m1 (by omega)
  have hB1 : Bytes h1 v l := hB.modX M1 (fun b hn hb _ => hvB b hb hn)
  generalize hNV : nameV l p f = NV at *
  obtain ⟨nm, q, f1⟩ := NV
  dsimp only at hq hR1 H ⊢
  simp (disch := omega)
  refine (⟨_, rfl⟩ : ∃ g, g = hset (hset (hset (hset (h1.push (.cells #[str [], .int .i64 0, .int .i64 0, .int .i64 0] 61)) ⟨h1.size, 0, none⟩ (str nm)) ⟨h1.size, 1, none⟩ (.int .i64 0)) ⟨h1.size, 2, none⟩ (.int .i64 0)) ⟨h1.size, 3, none⟩ (.int .i64 0)).elim fun g eg => ?_
  simp only [← eg]
  have e1 : Ext h1 g := by rw [eg]; exact (by repeat' (first | (with_reducible exact Ext.refl _) | (with_reducible assumption) | (with_reducible refine push_ext ?_) | (with_reducible refine hset_ext ?_ ?_) | (with_reducible refine Ext.trans ?_ (by assumption)) | omega | (simp; done) | (simp; omega) | (refine Ext.size ?_) | (refine Nat.le_succ_of_le (Ext.size ?_))))
  have d0 : Cel g h1.size 0 (str nm) := by rw [eg]; exact ⟨by simp, by simp⟩
  have d1 : Cel g h1.size 1 (.int .i64 0) := by rw [eg]; exact ⟨by simp, by simp⟩
  have d2 : Cel g h1.size 2 (.int .i64 0) := by rw [eg]; exact ⟨by simp, by simp⟩
  have d3 : Cel g h1.size 3 (.int .i64 0) := by rw [eg]; exact ⟨by simp, by simp⟩
  clear eg
  have M2 : Mod (· = B) h g := M1.extIn e1
  refine RdNum_c (n := 8) (hB1.ext e1) (by omega) (hR1.ext e1) (by omega) (.inr (.inr rfl)) fun h3 m3 hR3 => ?_
  have M3 := M2.trans m3 (fun b _ e => e)
  refine RdNum_c (n := 4) (hB.modX M3 (fun b hn hb _ => hvB b hb hn)) (by omega) hR3 (by omega) (.inr (.inl rfl)) fun h4 m4 hR4 => ?_
  have M4 := M3.trans m4 (fun b _ e => e)
  refine RdNum_c (n := 8) (hB.modX M4 (fun b hn hb _ => hvB b hb hn)) (by omega) hR4 (by omega) (.inr (.inr rfl)) fun h5 m5 hR5 => ?_
  have M5 := M4.trans m5 (fun b _ e => e)
  have m35 := (m3.trans m4 (fun b _ e => e)).trans m5 (fun b _ e => e)
  have m15 := (Mod.of_ext (S := (· = B)) e1).trans m35 (fun b _ e => e)
  have d0 := d0.mod m35 (by omega)
  have d1 := d1.mod m35 (by omega)
  have d2 := d2.mod m35 (by omega)
  have d3 := d3.mod m35 (by omega)
  have z0 := z0.mod m15 (by omega)
  have z1 := z1.mod m15 (by omega)
  have z2 := z2.mod m15 (by omega)
  have z3 := z3.mod m15 (by omega)
  generalize numV l q 8 = N1 at *
  generalize numV l (q + 8) 4 = N2 at *
  generalize numV l (q + 8 + 4) 8 = N3 at *
  obtain ⟨n1, g1⟩ := N1
  obtain ⟨n2, g2⟩ := N2
  obtain ⟨n3, g3⟩ := N3
  dsimp only at H hR5 ⊢
  simp (disch := omega) [d0.get, d1.get, d2.get, d3.get, d1.free, d2.free, d3.free, z0.get, z1.get, z2.get, z3.get, z0.free, z1.free, z2.free, z3.free]
  refine H _ (by repeat' (first | (with_reducible exact Mod.refl _ _) | (with_reducible assumption) | (with_reducible refine Mod.pushIn ?_) | (with_reducible refine Mod.setIn ?_ ?_) | (with_reducible refine Mod.putIn ?_ ?_) | (with_reducible refine Mod.extIn ?_ (by assumption)) | (exact Or.inr (by first | omega | (simp; done) | (simp; omega))) | (exact Or.inl (by first | (simp; done) | (simp; omega))))) ?_
  refine hR5.mod (S := fun x => x = h1.size ∨ x = h.size) (by repeat' (first | (with_reducible exact Mod.refl _ _) | (with_reducible assumption) | (with_reducible refine Mod.pushIn ?_) | (with_reducible refine Mod.setIn ?_ ?_) | (with_reducible refine Mod.putIn ?_ ?_) | (with_reducible refine Mod.extIn ?_ (by assumption)) | (exact Or.inr (by first | omega | (simp; done) | (simp; omega))) | (exact Or.inl (by first | (simp; done) | (simp; omega))))) (by omega)
end Go.Proofs.Ytgnmjcljljfldaa
