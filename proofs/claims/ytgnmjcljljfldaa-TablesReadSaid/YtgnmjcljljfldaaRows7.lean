/- Tables: the reference's reading of rows. -/
import Derived.Test.YtgnmjcljljfldaaRows6
import Derived.Test.YtgnmjcljljfldaaTab10
set_option linter.unusedSimpArgs false
set_option linter.unusedVariables false
namespace Go.Proofs.Ytgnmjcljljfldaa
open Go.Vc
variable {K : Value → Heap → Prop} {h : Heap}

/-- A byte as a number. -/
def byteI (b : UInt8) : Int := b.toNat
/-- One snapshot off the front. -/
def refR : List UInt8 → Option (Rw × List UInt8)
  | [] => none
  | c :: t => if t.length < c.toNat + 14 then none else
    some (⟨t.take c.toNat, byteI ((t.drop c.toNat)[0]?.getD 0), byteI ((t.drop c.toNat)[1]?.getD 0), num62 (((t.drop c.toNat).take 10).drop 2), num62 (((t.drop c.toNat).take 14).drop 10)⟩, (t.drop c.toNat).drop 14)
def refRN (l : List UInt8) : Nat → Option (List Rw × List UInt8)
  | 0 => some ([], l)
  | i + 1 => (refRN l i).bind fun a => (refR a.2).map fun x => (a.1 ++ [x.1], x.2)
theorem refR_at {x : Rw} {b : Int} {C : List UInt8} (hk : RwOk x b) : refR (x.bytes ++ C) = some (x, C) := by
  obtain ⟨⟨n1, n2, -⟩, ⟨g0, g1, f0, f1⟩, hl⟩ := hk
  obtain ⟨nm, g, fl, p, m⟩ := x
  dsimp only at n1 n2 g0 g1 f0 f1 hl
  have hl0 : 0 ≤ p ∧ p ≤ 268435456 ∧ 0 ≤ m ∧ m ≤ 16777216 := by rcases hl with hl | ⟨hl1, hl2⟩; omega; have := hl1.1; have := hl1.2.1; omega
  obtain ⟨g, rfl⟩ := Int.eq_ofNat_of_zero_le (show 0 ≤ g by omega)
  obtain ⟨fl, rfl⟩ := Int.eq_ofNat_of_zero_le f0
  obtain ⟨p, rfl⟩ := Int.eq_ofNat_of_zero_le hl0.1
  obtain ⟨m, rfl⟩ := Int.eq_ofNat_of_zero_le hl0.2.2.1
  have hL : Rw.bytes ⟨nm, (g : Nat), (fl : Nat), (p : Nat), (m : Nat)⟩ ++ C = UInt8.ofNat (nm.length % 256) :: (nm ++ (UInt8.ofNat (g % 256) :: UInt8.ofNat (fl % 256) :: (leB 8 p ++ (leB 4 m ++ C)))) := by unfold Rw.bytes; simp [leB]
  have ht : (UInt8.ofNat (nm.length % 256)).toNat = nm.length := by simp; omega
  rw [hL]
  rw [refR, ht, if_neg (by simp; omega), List.take_left, List.drop_left]
  have e1 : ((UInt8.ofNat (g % 256) :: UInt8.ofNat (fl % 256) :: (leB 8 p ++ (leB 4 m ++ C))).take 10).drop 2 = leB 8 p := by
    rw [List.drop_take]
    exact List.take_left' (by simp)
  have e2 : ((UInt8.ofNat (g % 256) :: UInt8.ofNat (fl % 256) :: (leB 8 p ++ (leB 4 m ++ C))).take 14).drop 10 = leB 4 m := by
    rw [List.drop_take]
    simp only [List.drop_succ_cons]
    rw [List.drop_left' (by simp)]
    exact List.take_left' (by simp)
  have e4 : (UInt8.ofNat (g % 256) :: UInt8.ofNat (fl % 256) :: (leB 8 p ++ (leB 4 m ++ C))).drop 14 = C := by
    simp only [List.drop_succ_cons]
    rw [← List.append_assoc]
    exact List.drop_left' (by simp)
  have g5 : byteI (UInt8.ofNat (g % 256)) = (g : Nat) := by unfold byteI; simp; omega
  have f5 : byteI (UInt8.ofNat (fl % 256)) = (fl : Nat) := by unfold byteI; simp; omega
  rw [e1, e2, e4, num62_of (by rw [show (256 : Nat) ^ 8 = 18446744073709551616 by decide]; omega) (by omega), num62_of (by rw [show (256 : Nat) ^ 4 = 4294967296 by decide]; omega) (by omega)]
  simp only [List.getElem?_cons_zero, List.getElem?_cons_succ, Option.getD_some, g5, f5]
theorem refRN_good {b : Int} {ys : List Rw} (hk : ∀ x ∈ ys, RwOk x b) : ∀ i, i ≤ ys.length → refRN (RwsB ys) i = some (ys.take i, RwsB (ys.drop i))
  | 0, _ => by simp [refRN]
  | i + 1, hi => by
    rw [refRN, refRN_good hk i (by omega)]
    have e : RwsB (ys.drop i) = ys[i].bytes ++ RwsB (ys.drop (i + 1)) := by
      rw [List.drop_eq_getElem_cons (by omega)]
      unfold RwsB
      rw [List.flatMap_cons]
    simp only [Option.bind_some]
    rw [e, refR_at (hk _ (List.getElem_mem _)), List.take_succ_eq_append_getElem (by omega)]
    rfl
theorem refR_none {ys : List Rw} {b : Int} {l : List UInt8} {i : Nat} (e : putM ys b = (l, 0)) (hi : i ≤ ys.length) (hn : refRN l i = none) : False := by
  obtain ⟨-, g, -, hl⟩ := putM_zero e
  rw [hl, refRN_good g.1 i hi] at hn
  cases hn
theorem refR_last {ys xs : List Rw} {b : Int} {l r : List UInt8} (e : putM ys b = (l, 0)) (hn : refRN l ys.length = some (xs, r)) : xs = ys := by
  obtain ⟨-, g, -, hl⟩ := putM_zero e
  rw [hl, refRN_good g.1 _ (Nat.le_refl _), List.take_length] at hn
  cases hn; rfl

set_option maxHeartbeats 4000000 in
theorem RefReadRows_c {v : Value} {l : List UInt8} {n b : Int} (hB : Bytes h v l) (hl : l.length < 1000000) (hb : 9 ≤ b ∧ b ≤ 16) (hn0 : 0 ≤ n) (hn : n < 9223372036854775808)
    (ht : ∀ v' h' ys, Ext h h' → Rws h' v' ys → (ys.length : Int) = n → putM ys b = (l, 0) → K (.tuple #[v', .bool true]) h')
    (hf : ∀ h', Ext h h' → (¬ ∃ ys : List Rw, (ys.length : Int) = n ∧ putM ys b = (l, 0)) → K (.tuple #[.slice none 0 0, .bool false]) h') :
    CallsH Try.prog 15 #[.int .i64 b, v, .int .i64 n] h K ⟨⟩ := by
  obtain ⟨n, rfl⟩ := Int.eq_ofNat_of_zero_le hn0
  refine n15_calls ?_
  unfold n15
  refine loopA3 (fun a : Value × Value × Nat => a.1) (fun a => a.2.1) (fun a => .int .i64 a.2.2) (fun a h' => Ext h h' ∧ a.2.2 ≤ n ∧ (∀ b, blkV a.1 = some b → h.size ≤ b) ∧ ∃ xs r, refRN l a.2.2 = some (xs, r) ∧ OwnRw h' a.1 xs ∧ Bytes h a.2.1 r ∧ xs.length = a.2.2 ∧ 15 * a.2.2 + r.length ≤ l.length ∧ ∀ x ∈ xs, x.name.length < 1000000) (fun a => n - a.2.2) (_, _, 0) ⟨rfl, rfl, rfl⟩ ⟨.refl _, by simp, (fun b hb => by cases hb), [], l, rfl, .inl ⟨rfl, rfl⟩, hB, rfl, by simp, (fun x hx => by cases hx)⟩ ?_
  rintro ⟨u, w, i⟩ h1 ⟨e1, hi, hub, hx⟩
  refine hx.elim fun xs hx => hx.elim fun r hx => ?_
  obtain ⟨hN, hu, hw, hxl, h21, hnl⟩ := hx
  dsimp only at hi hub hN hu hw hxl h21
  by_cases hin : i = n
  · have hB1 := hB.ext e1
    simp (disch := omega) [hin]
    refine RefRows_c hu.rws (by omega) (fun x hx => by have := hnl x hx; omega) fun v2 h2 e2 hB2 _ => ?_
    have E2 := e1.trans e2
    have hB3 := hB1.ext e2
    by_cases hz : (putM xs b).2 = 0
    · simp (disch := omega) [hz, Try.cv26_9 hB2, Try.cv26_9 hB3]
      by_cases he : (putM xs b).1 = l
      · simp (disch := omega) [he]
        exact ht _ _ xs E2 (hu.rws.ext e2) (by omega) (Prod.ext he hz)
      · simp (disch := omega) [he]
        refine hf _ E2 fun ⟨ys, h1, h2⟩ => ?_
        have h3 : ys.length = i := by omega
        rw [← h3] at hN
        rw [refR_last h2 hN] at he
        exact he (by rw [h2])
    · simp (disch := omega) [hz]
      refine hf _ E2 fun ⟨ys, h1, h2⟩ => ?_
      have h3 : ys.length = i := by omega
      rw [← h3] at hN
      rw [refR_last h2 hN] at hz
      exact hz (by rw [h2])
  · have hno : refR r = none → ¬ ∃ ys : List Rw, (ys.length : Int) = (n : Nat) ∧ putM ys b = (l, 0) := fun e ⟨ys, h1, h2⟩ => refR_none (i := i + 1) h2 (by omega) (by rw [refRN, hN]; simp [e])
    obtain ⟨o, c, rfl⟩ := hw.form
    cases r with
    | nil =>
      simp (disch := omega)
      exact hf _ e1 (hno rfl)
    | cons c0 t =>
      obtain ⟨a, rfl, -, hc, hA⟩ := (hw.ext e1).at (by simp)
      have a0 := hA 0 (by simp)
      simp only [elt_zero] at a0
      replace a0 : hcell h1 a = some (byteV c0) := a0
      simp only [List.length_cons] at h21 hc hw
      have hcl := c0.toNat_lt
      by_cases hs : t.length < c0.toNat + 14
      · simp (disch := omega) [a0, byteV]
        exact hf _ e1 (hno (by rw [refR, if_pos hs]))
      · obtain ⟨w1, hw1, s1⟩ := slB1 hw (by simp) 1 (by omega) (by simp; omega)
        simp only [Int.toNat_one, List.drop_succ_cons, List.drop_zero, List.length_cons] at hw1 s1
        simp (disch := omega) [a0, byteV, s1]
        refine take_c hw1 (by omega) (k := c0.toNat) (by omega) (by omega) fun w2 w3 hw2 hw3 => ?_
        have hS : refR (c0 :: t) = some (⟨t.take c0.toNat, byteI ((t.drop c0.toNat)[0]?.getD 0), byteI ((t.drop c0.toNat)[1]?.getD 0), num62 (((t.drop c0.toNat).take 10).drop 2), num62 (((t.drop c0.toNat).take 14).drop 10)⟩, (t.drop c0.toNat).drop 14) := by rw [refR, if_neg hs]
        have hml : (t.drop c0.toNat).length = t.length - c0.toNat := by simp
        obtain ⟨w5, hw5, s5⟩ := slB2 hw3 (by omega) 2 10 (by omega) (by omega) (by omega)
        obtain ⟨w6, hw6, s6⟩ := slB2 hw3 (by omega) 10 14 (by omega) (by omega) (by omega)
        obtain ⟨w7, hw7, s7⟩ := slB1 hw3 (by omega) 14 (by omega) (by omega)
        obtain ⟨o3, c3, rfl⟩ := hw3.form
        obtain ⟨a3, rfl, -, hc3, hA3⟩ := (hw3.ext e1).at (by omega)
        have b0 := hA3 0 (by omega)
        have b1 := hA3 1 (by omega)
        have g0 : (t.drop c0.toNat)[0]? = some (t.drop c0.toNat)[0] := List.getElem?_eq_getElem (by omega)
        have g1 : (t.drop c0.toNat)[1]? = some (t.drop c0.toNat)[1] := List.getElem?_eq_getElem (by omega)
        rw [g0, g1] at hS
        simp only [Option.getD_some] at hS
        generalize (t.drop c0.toNat)[0] = B0 at *
        generalize (t.drop c0.toNat)[1] = B1 at *
        simp only [elt_zero] at b0
        simp only [List.length_drop] at s5 s6 s7
        have hb0 := B0.toNat_lt
        have hb1 := B1.toNat_lt
        simp (disch := omega) [Try.cv26_9 (hw2.ext e1), s5, s6, s7, b0, b1, byteV]
        refine Num62_c (hw5.ext e1) (by simp; omega) ?_
        simp (disch := omega) [Try.cv26_9 (hw2.ext e1), b0, b1, byteV]
        refine Num62_c (hw6.ext e1) (by simp; omega) ?_
        simp (disch := omega) [Try.cv26_9 (hw2.ext e1), b0, b1, byteV]
        refine appRw (x := ⟨t.take c0.toNat, byteI B0, byteI B1, num62 (((t.drop c0.toNat).take 10).drop 2), num62 (((t.drop c0.toNat).take 14).drop 10)⟩) hu (by omega) fun u2 h2 hu2 m2 hub2 => ?_
        have E2 : Ext h h2 := m2.ext_from (push_ext e1) (fun b hb hb' => by have := hub b hb'; omega)
        simp (disch := omega) [s7]
        refine ⟨i + 1, by simp, ⟨E2, by omega, (fun b hb => (hub2 b hb).elim (hub b) (fun e => by have := e1.size; omega)), _, _, by rw [refRN, hN]; simp only [Option.bind_some]; rw [hS]; rfl, hu2, hw7, ?_, ?_, ?_⟩, by omega⟩
        · simp; omega
        · simp only [List.length_drop, Int.reduceToNat]; omega
        · intro x hx
          rcases List.mem_append.1 hx with hx | hx
          · exact hnl x hx
          · rw [List.mem_singleton.1 hx]; simp; omega
end Go.Proofs.Ytgnmjcljljfldaa
