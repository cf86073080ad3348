/- Tables: the reference's reading of snapshots. -/
import Derived.Test.YtgnmjcljljfldaaTab7
set_option linter.unusedSimpArgs false
set_option linter.unusedVariables false
namespace Go.Proofs.Ytgnmjcljljfldaa
open Go.Vc
variable {K : Value → Heap → Prop} {h : Heap}

/-- A part of bytes. -/
theorem slB2 {v : Value} {l : List UInt8} (hB : Bytes h v l) (hl : 0 < l.length) (lo hi : Int) (h0 : 0 ≤ lo) (h1 : lo ≤ hi) (h2 : hi ≤ l.length) :
    ∃ u, Bytes h u ((l.take hi.toNat).drop lo.toNat) ∧ ∀ (q : Bool) (K : Value → Heap → Prop) (g : Heap), Hp Try.prog q (Instr.sliceAt 26 v (some (.int .i64 lo)) (some (.int .i64 hi)) none) K g ⟨⟩ ↔ K u g := by
  obtain ⟨o, c, rfl⟩ := hB.form
  obtain ⟨a, rfl, -, hc, hA⟩ := hB.at hl
  refine ⟨.slice (some (sub a lo.toNat c)) (hi.toNat - lo.toNat) (c - lo.toNat), .inr ⟨_, _, by congr 1; simp; omega, by simp; omega, hA.part lo.toNat hi.toNat c (by omega) (by omega) hc⟩, fun q K g => ?_⟩
  simp (disch := omega)
theorem slB1 {v : Value} {l : List UInt8} (hB : Bytes h v l) (hl : 0 < l.length) (lo : Int) (h0 : 0 ≤ lo) (h2 : lo ≤ l.length) :
    ∃ u, Bytes h u (l.drop lo.toNat) ∧ ∀ (q : Bool) (K : Value → Heap → Prop) (g : Heap), Hp Try.prog q (Instr.sliceAt 26 v (some (.int .i64 lo)) none none) K g ⟨⟩ ↔ K u g := by
  obtain ⟨o, c, rfl⟩ := hB.form
  obtain ⟨a, rfl, -, hc, hA⟩ := hB.at hl
  have hp := hA.part lo.toNat l.length c (by omega) (by omega) hc
  rw [List.take_length] at hp
  refine ⟨.slice (some (sub a lo.toNat c)) (l.length - lo.toNat) (c - lo.toNat), .inr ⟨_, _, by congr 1; simp, by simp; omega, hp⟩, fun q K g => ?_⟩
  simp (disch := omega)
theorem slB0 {v : Value} {l : List UInt8} (hB : Bytes h v l) (hl : 0 < l.length) (hi : Int) (h0 : 0 ≤ hi) (h2 : hi ≤ l.length) :
    ∃ u, Bytes h u (l.take hi.toNat) ∧ ∀ (q : Bool) (K : Value → Heap → Prop) (g : Heap), Hp Try.prog q (Instr.sliceAt 26 v none (some (.int .i64 hi)) none) K g ⟨⟩ ↔ K u g := by
  obtain ⟨o, c, rfl⟩ := hB.form
  obtain ⟨a, rfl, -, hc, hA⟩ := hB.at hl
  have hp := hA.part 0 hi.toNat c (by omega) (by omega) hc
  rw [sub_zero, List.drop_zero] at hp
  refine ⟨.slice (some a) hi.toNat c, .inr ⟨_, _, by congr 1; simp; omega, by simp; omega, hp⟩, fun q K g => ?_⟩
  simp (disch := omega)

/-- A number of 62 bits, else -1. -/
def num62 (l : List UInt8) : Int := if leN l < 4611686018427387904 then leN l else -1
theorem Num62_c {v : Value} {l : List UInt8} (hB : Bytes h v l) (hl : l.length ≤ 8) (H : K (.int .i64 (num62 l)) h) : CallsH Try.prog 46 #[v] h K ⟨⟩ := by
  refine n46_calls ?_
  unfold n46
  refine Value_c hB hl ?_
  unfold num62 at H
  have hx := leN_lt8 hl
  generalize leN l = x at *
  by_cases hx : x < 4611686018427387904
  · rw [if_pos hx] at H
    simp (disch := omega) [Try.cvw45_2]
    exact H
  · rw [if_neg hx] at H
    simp (disch := omega)
    exact H
theorem num62_of {n x : Nat} (hx : x < 256 ^ n) (hx2 : x < 4611686018427387904) : num62 (leB n x) = x := by
  unfold num62
  rw [leN_leB, Nat.mod_eq_of_lt hx, if_pos hx2]
theorem num62_le {l : List UInt8} : -1 ≤ num62 l ∧ num62 l < 4611686018427387904 := by
  unfold num62
  split <;> omega
theorem take_c {g : Heap} {v : Value} {l : List UInt8} {k : Nat} (hB : Bytes g v l) (hl : 0 < l.length) (hk : k ≤ l.length) (hl2 : l.length < 1000000000)
    (H : ∀ u w, Bytes g u (l.take k) → Bytes g w (l.drop k) → K (.tuple #[u, w, .bool true]) h) : CallsH Try.prog 45 #[v, .int .i64 k] h K ⟨⟩ := by
  obtain ⟨u, hu, su⟩ := slB0 hB hl k (by omega) (by omega)
  obtain ⟨w, hw, sw⟩ := slB1 hB hl k (by omega) (by omega)
  obtain ⟨o, c, rfl⟩ := hB.form
  refine n45_calls ?_
  unfold n45
  simp (disch := omega) [su, sw]
  exact H u w (by simpa using hu) (by simpa using hw)

/-- One snapshot off the front. -/
def refS : List UInt8 → Option (Sn × List UInt8)
  | [] => none
  | c :: t => if t.length < c.toNat + 20 then none else
    some (⟨t.take c.toNat, num62 ((t.drop c.toNat).take 8), num62 (((t.drop c.toNat).take 12).drop 8), num62 (((t.drop c.toNat).take 20).drop 12)⟩, (t.drop c.toNat).drop 20)
def refSN (l : List UInt8) : Nat → Option (List Sn × List UInt8)
  | 0 => some ([], l)
  | i + 1 => (refSN l i).bind fun a => (refS a.2).map fun x => (a.1 ++ [x.1], x.2)
theorem refS_at {x : Sn} {b : Int} {C : List UInt8} (hk : SnOk x b) : refS (x.bytes ++ C) = some (x, C) := by
  obtain ⟨⟨n1, n2, -⟩, ⟨s0, s1, s2, m0, m1⟩, hl⟩ := hk
  obtain ⟨nm, l1, m, s⟩ := x
  dsimp only at n1 n2 s0 s1 s2 m0 m1 hl
  have hl0 : 0 ≤ l1 ∧ l1 ≤ 268435456 := by rcases hl with hl | ⟨hl1, hl2⟩; omega; have := hl2.1; have := hl2.2.1; omega
  obtain ⟨l1, rfl⟩ := Int.eq_ofNat_of_zero_le hl0.1
  obtain ⟨m, rfl⟩ := Int.eq_ofNat_of_zero_le m0
  obtain ⟨s, rfl⟩ := Int.eq_ofNat_of_zero_le s0
  have hL : Sn.bytes ⟨nm, l1, m, s⟩ ++ C = UInt8.ofNat (nm.length % 256) :: (nm ++ (leB 8 l1 ++ (leB 4 m ++ (leB 8 s ++ C)))) := by unfold Sn.bytes; simp
  have ht : (UInt8.ofNat (nm.length % 256)).toNat = nm.length := by simp; omega
  rw [hL]
  rw [refS, ht, if_neg (by simp; omega), List.take_left, List.drop_left]
  have e1 : (leB 8 l1 ++ (leB 4 m ++ (leB 8 s ++ C))).take 8 = leB 8 l1 := List.take_left' (by simp)
  have e2 : ((leB 8 l1 ++ (leB 4 m ++ (leB 8 s ++ C))).take 12).drop 8 = leB 4 m := by
    rw [List.drop_take, List.drop_left' (by simp)]
    exact List.take_left' (by simp)
  have e3 : ((leB 8 l1 ++ (leB 4 m ++ (leB 8 s ++ C))).take 20).drop 12 = leB 8 s := by
    rw [List.drop_take, ← List.append_assoc, List.drop_left' (by simp)]
    exact List.take_left' (by simp)
  have e4 : (leB 8 l1 ++ (leB 4 m ++ (leB 8 s ++ C))).drop 20 = C := by
    rw [← List.append_assoc, ← List.append_assoc]
    exact List.drop_left' (by simp)
  rw [e1, e2, e3, e4, num62_of (by rw [show (256 : Nat) ^ 8 = 18446744073709551616 by decide]; omega) (by omega), num62_of (by rw [show (256 : Nat) ^ 4 = 4294967296 by decide]; omega) (by omega), num62_of (by rw [show (256 : Nat) ^ 8 = 18446744073709551616 by decide]; omega) (by omega)]
theorem refSN_good {b : Int} {ys : List Sn} (hk : ∀ x ∈ ys, SnOk x b) : ∀ i, i ≤ ys.length → refSN (SnsB ys) i = some (ys.take i, SnsB (ys.drop i))
  | 0, _ => by simp [refSN]
  | i + 1, hi => by
    rw [refSN, refSN_good hk i (by omega)]
    have e : SnsB (ys.drop i) = ys[i].bytes ++ SnsB (ys.drop (i + 1)) := by
      rw [List.drop_eq_getElem_cons (by omega)]
      unfold SnsB
      rw [List.flatMap_cons]
    simp only [Option.bind_some]
    rw [e, refS_at (hk _ (List.getElem_mem _)), List.take_succ_eq_append_getElem (by omega)]
    rfl
theorem refS_none {ys : List Sn} {b : Int} {l : List UInt8} {i : Nat} (e : putR ys b = (l, 0)) (hi : i ≤ ys.length) (hn : refSN l i = none) : False := by
  obtain ⟨-, g, -, hl⟩ := putR_zero e
  rw [hl, refSN_good g.1 i hi] at hn
  cases hn
theorem refS_last {ys xs : List Sn} {b : Int} {l r : List UInt8} (e : putR ys b = (l, 0)) (hn : refSN l ys.length = some (xs, r)) : xs = ys := by
  obtain ⟨-, g, -, hl⟩ := putR_zero e
  rw [hl, refSN_good g.1 _ (Nat.le_refl _), List.take_length] at hn
  cases hn; rfl

set_option maxHeartbeats 4000000 in
theorem RefReadSnaps_c {v : Value} {l : List UInt8} {n b : Int} (hB : Bytes h v l) (hl : l.length < 1000000) (hb : 9 ≤ b ∧ b ≤ 16) (hn0 : 0 ≤ n) (hn : n < 9223372036854775808)
    (ht : ∀ v' h' ys, Ext h h' → Sns h' v' ys → (ys.length : Int) = n → putR ys b = (l, 0) → K (.tuple #[v', .bool true]) h')
    (hf : ∀ h', Ext h h' → (¬ ∃ ys : List Sn, (ys.length : Int) = n ∧ putR ys b = (l, 0)) → K (.tuple #[.slice none 0 0, .bool false]) h') :
    CallsH Try.prog 14 #[.int .i64 b, v, .int .i64 n] h K ⟨⟩ := by
  obtain ⟨n, rfl⟩ := Int.eq_ofNat_of_zero_le hn0
  refine n14_calls ?_
  unfold n14
  refine loopA3 (fun a : Value × Value × Nat => a.1) (fun a => a.2.1) (fun a => .int .i64 a.2.2) (fun a h' => Ext h h' ∧ a.2.2 ≤ n ∧ (∀ b, blkV a.1 = some b → h.size ≤ b) ∧ ∃ xs r, refSN l a.2.2 = some (xs, r) ∧ OwnSn h' a.1 xs ∧ Bytes h a.2.1 r ∧ xs.length = a.2.2 ∧ 21 * a.2.2 + r.length ≤ l.length ∧ ∀ x ∈ xs, x.name.length < 1000000) (fun a => n - a.2.2) (_, _, 0) ⟨rfl, rfl, rfl⟩ ⟨.refl _, by simp, (fun b hb => by cases hb), [], l, rfl, .inl ⟨rfl, rfl⟩, hB, rfl, by simp, (fun x hx => by cases hx)⟩ ?_
  rintro ⟨u, w, i⟩ h1 ⟨e1, hi, hub, hx⟩
  refine hx.elim fun xs hx => hx.elim fun r hx => ?_
  obtain ⟨hN, hu, hw, hxl, h21, hnl⟩ := hx
  dsimp only at hi hub hN hu hw hxl h21
  by_cases hin : i = n
  · have hB1 := hB.ext e1
    simp (disch := omega) [hin]
    refine RefSnaps_c hu.sns (by omega) (fun x hx => by have := hnl x hx; omega) fun v2 h2 e2 hB2 _ => ?_
    have E2 := e1.trans e2
    have hB3 := hB1.ext e2
    by_cases hz : (putR xs b).2 = 0
    · simp (disch := omega) [hz, Try.cv26_9 hB2, Try.cv26_9 hB3]
      by_cases he : (putR xs b).1 = l
      · simp (disch := omega) [he]
        exact ht _ _ xs E2 (hu.sns.ext e2) (by omega) (Prod.ext he hz)
      · simp (disch := omega) [he]
        refine hf _ E2 fun ⟨ys, h1, h2⟩ => ?_
        have h3 : ys.length = i := by omega
        rw [← h3] at hN
        rw [refS_last h2 hN] at he
        exact he (by rw [h2])
    · simp (disch := omega) [hz]
      refine hf _ E2 fun ⟨ys, h1, h2⟩ => ?_
      have h3 : ys.length = i := by omega
      rw [← h3] at hN
      rw [refS_last h2 hN] at hz
      exact hz (by rw [h2])
  · have hno : refS r = none → ¬ ∃ ys : List Sn, (ys.length : Int) = (n : Nat) ∧ putR ys b = (l, 0) := fun e ⟨ys, h1, h2⟩ => refS_none (i := i + 1) h2 (by omega) (by rw [refSN, hN]; simp [e])
    obtain ⟨o, c, rfl⟩ := hw.form
    cases r with
    | nil =>
      simp (disch := omega)
      exact hf _ e1 (hno rfl)
    | cons c0 t =>
      obtain ⟨a, rfl, -, hc, hA⟩ := (hw.ext e1).at (by simp)
      have a0 := hA 0 (by simp)
      simp only [elt_zero] at a0
      replace a0 : hcell h1 a = some (byteV c0) := a0
      simp only [List.length_cons] at h21 hc hw
      have hcl := c0.toNat_lt
      by_cases hs : t.length < c0.toNat + 20
      · simp (disch := omega) [a0, byteV]
        exact hf _ e1 (hno (by rw [refS, if_pos hs]))
      · obtain ⟨w1, hw1, s1⟩ := slB1 hw (by simp) 1 (by omega) (by simp; omega)
        simp only [Int.toNat_one, List.drop_succ_cons, List.drop_zero, List.length_cons] at hw1 s1
        simp (disch := omega) [a0, byteV, s1]
        refine take_c hw1 (by omega) (k := c0.toNat) (by omega) (by omega) fun w2 w3 hw2 hw3 => ?_
        have hS : refS (c0 :: t) = some (⟨t.take c0.toNat, num62 ((t.drop c0.toNat).take 8), num62 (((t.drop c0.toNat).take 12).drop 8), num62 (((t.drop c0.toNat).take 20).drop 12)⟩, (t.drop c0.toNat).drop 20) := by rw [refS, if_neg hs]
        have hml : (t.drop c0.toNat).length = t.length - c0.toNat := by simp
        obtain ⟨w4, hw4, s4⟩ := slB0 hw3 (by omega) 8 (by omega) (by omega)
        obtain ⟨w5, hw5, s5⟩ := slB2 hw3 (by omega) 8 12 (by omega) (by omega) (by omega)
        obtain ⟨w6, hw6, s6⟩ := slB2 hw3 (by omega) 12 20 (by omega) (by omega) (by omega)
        obtain ⟨w7, hw7, s7⟩ := slB1 hw3 (by omega) 20 (by omega) (by omega)
        simp (disch := omega) [Try.cv26_9 (hw2.ext e1), s4, s5, s6, s7]
        refine Num62_c (hw4.ext e1) (by simp; omega) ?_
        simp (disch := omega) [Try.cv26_9 (hw2.ext e1)]
        refine Num62_c (hw5.ext e1) (by simp; omega) ?_
        simp (disch := omega) [Try.cv26_9 (hw2.ext e1)]
        refine Num62_c (hw6.ext e1) (by simp; omega) ?_
        simp (disch := omega) [Try.cv26_9 (hw2.ext e1)]
        refine appSn (x := ⟨t.take c0.toNat, num62 ((t.drop c0.toNat).take 8), num62 (((t.drop c0.toNat).take 12).drop 8), num62 (((t.drop c0.toNat).take 20).drop 12)⟩) hu (by omega) fun u2 h2 hu2 m2 hub2 => ?_
        have E2 : Ext h h2 := m2.ext_from (push_ext e1) (fun b hb hb' => by have := hub b hb'; omega)
        simp (disch := omega) [s7]
        refine ⟨i + 1, by simp, ⟨E2, by omega, (fun b hb => (hub2 b hb).elim (hub b) (fun e => by have := e1.size; omega)), _, _, by rw [refSN, hN]; simp only [Option.bind_some]; rw [hS]; rfl, hu2, hw7, ?_, ?_, ?_⟩, by omega⟩
        · simp; omega
        · simp only [List.length_drop, Int.reduceToNat]; omega
        · intro x hx
          rcases List.mem_append.1 hx with hx | hx
          · exact hnl x hx
          · rw [List.mem_singleton.1 hx]; simp; omega
end Go.Proofs.Ytgnmjcljljfldaa
