/- Tables: what is read off a list's bytes. -/
import Derived.Test.YtgnmjcljljfldaaTab5
set_option linter.unusedSimpArgs false
set_option linter.unusedVariables false
namespace Go.Proofs.Ytgnmjcljljfldaa
open Go.Vc
variable {K : Value → Heap → Prop} {h : Heap}

/-- One's own list of snapshots. -/
def OwnSn (h : Heap) (v : Value) (xs : List Sn) : Prop := OwnS 4 h v (xs.flatMap Sn.cells)
@[simp] theorem Sn.cells_len (x : Sn) : x.cells.length = 4 := rfl
theorem flat_len : ∀ xs : List Sn, (xs.flatMap Sn.cells).length = xs.length * 4
  | [] => rfl
  | x :: xs => by rw [List.flatMap_cons, List.length_append, flat_len xs]; simp; omega
theorem flat_get : ∀ (xs : List Sn) (i j : Nat) (hi : i < xs.length) (hj : j < 4), (xs.flatMap Sn.cells)[i * 4 + j]? = xs[i].cells[j]?
  | x :: xs, 0, j, _, hj => by
    rw [List.flatMap_cons, List.getElem?_append_left (by simp; omega)]; simp
  | x :: xs, i + 1, j, hi, hj => by
    rw [List.flatMap_cons, List.getElem?_append_right (by simp; omega)]
    simp only [Sn.cells_len, List.getElem_cons_succ]
    rw [← flat_get xs i j (by simpa using hi) hj]
    congr 1; omega
theorem OwnSn.sns {v : Value} {xs : List Sn} (o : OwnSn h v xs) : Sns h v xs := by
  rcases o with ⟨rfl, h1⟩ | ⟨b, n, c, rest, e, fz, rfl, h1, h2, h3, h4, h5⟩
  · have := congrArg List.length h1
    rw [flat_len] at this
    simp only [List.length_nil] at this
    exact .inl ⟨rfl, List.length_eq_zero_iff.1 (by omega)⟩
  · rw [flat_len] at h1
    have hn : n = xs.length := by omega
    subst hn
    refine .inr ⟨_, c, rfl, h2, fun i hi => ⟨xs[i].cells, rfl, fun j hj => ?_, rfl⟩⟩
    simp only [Sn.cells_len] at hj
    rw [elt_elt, elt_mk, Nat.zero_add, hcell_of_block h3]
    simp only [List.getElem?_toArray]
    rw [List.getElem?_append_left (by rw [flat_len]; omega), flat_get xs i j hi hj, List.getElem?_eq_getElem (by simpa using hj)]
    rfl
theorem OwnSn.mod {S : Nat → Prop} {h' : Heap} {v : Value} {xs : List Sn} (o : OwnSn h v xs) (m : Mod S h h') (hS : ∀ b, blkV v = some b → ¬ S b) : OwnSn h' v xs := OwnS.mod o m hS
theorem OwnSn.ext {h' : Heap} {v : Value} {xs : List Sn} (o : OwnSn h v xs) (e : Ext h h') : OwnSn h' v xs := OwnS.ext o e
theorem appSn {v : Value} {xs : List Sn} {x : Sn} (o : OwnSn h v xs) (hl : xs.length < 1000000000)
    (H : ∀ v' h', OwnSn h' v' (xs ++ [x]) → Mod (fun b => blkV v = some b) (h.push (.cells (List.toArray x.cells) 61)) h' → (∀ b, blkV v' = some b → blkV v = some b ∨ h.size + 1 ≤ b) → K v' h') :
    Hp Try.prog false (Builtin.append_ #[36, 36] 36 #[v, .slice (some ⟨h.size, 0, none⟩) 1 1]) K (h.push (.cells (List.toArray x.cells) 61)) ⟨⟩ := by
  have hs : Src 4 (h.push (.cells (List.toArray x.cells) 61)) (.slice (some ⟨h.size, 0, none⟩) 1 1) 1 x.cells := .inr (.inl ⟨_, 1, rfl, rfl, Seg_new rfl⟩)
  refine Hp_append (e := 61) (s := 4) (by_ := 40) (n := xs.length) (k := 1) (by kernel_rfl) (by kernel_rfl) (OwnS.ext o (push_ext (.refl _))) (flat_len xs) (by omega) hs ?_ (by omega) (by omega) fun v' h' h1 h2 h3 _ => ?_
  · intro u hu
    unfold Sn.cells at hu
    simp at hu
    rcases hu with rfl | rfl | rfl | rfl <;> rfl
  · refine H v' h' ?_ h2 (fun b hb => (h3 b hb).imp id (fun x => by simpa using x))
    unfold OwnSn
    rw [List.flatMap_append]
    simpa using h1

/-- Reading, pure. -/
def rdN (l : List UInt8) : Nat → List Sn × Nat × Bool
  | 0 => ([], 0, true)
  | i + 1 => ((rdN l i).1 ++ [(snapV l (rdN l i).2.1 (rdN l i).2.2).1], (snapV l (rdN l i).2.1 (rdN l i).2.2).2)
theorem rdN_len (l : List UInt8) : ∀ i, (rdN l i).1.length = i
  | 0 => rfl
  | i + 1 => by simp [rdN, rdN_len l i]
theorem numV_at {A M C : List UInt8} {n x : Nat} (hn : n = 1 ∨ n = 4 ∨ n = 8) (hM : M = leB n x) (hx : x < 256 ^ n) (hx2 : x < 4611686018427387904) : numV (A ++ (M ++ C)) A.length n = ((x : Int), true) := by
  subst hM
  unfold numV
  rw [getR_in hn (by simp), List.drop_left, List.take_append_of_le_length (by simp), List.take_of_length_le (by simp), leN_leB, Nat.mod_eq_of_lt hx]
  simp [hx2]
  exact wrap_i64 (by omega) (by omega)
theorem snapV_at {A C : List UInt8} {x : Sn} {b : Int} (hk : SnOk x b) : snapV (A ++ (x.bytes ++ C)) A.length true = (x, A.length + x.bytes.length, true) := by
  obtain ⟨⟨n1, n2, -⟩, ⟨s0, s1, s2, m0, m1⟩, hl⟩ := hk
  obtain ⟨nm, l1, m, s⟩ := x
  dsimp only at n1 n2 s0 s1 s2 m0 m1 hl
  have hl0 : 0 ≤ l1 ∧ l1 ≤ 268435456 := by rcases hl with hl | ⟨hl1, hl2⟩; omega; have := hl2.1; have := hl2.2.1; omega
  obtain ⟨l1, rfl⟩ := Int.eq_ofNat_of_zero_le hl0.1
  obtain ⟨m, rfl⟩ := Int.eq_ofNat_of_zero_le m0
  obtain ⟨s, rfl⟩ := Int.eq_ofNat_of_zero_le s0
  have hL : A ++ (Sn.bytes ⟨nm, l1, m, s⟩ ++ C) = A ++ ([UInt8.ofNat (nm.length % 256)] ++ (nm ++ (leB 8 l1 ++ (leB 4 m ++ (leB 8 s ++ C))))) := by unfold Sn.bytes; simp
  have hlen : (Sn.bytes ⟨nm, l1, m, s⟩).length = 1 + nm.length + 20 := by unfold Sn.bytes; simp; omega
  rw [hlen, hL]
  have e1 := numV_at (A := A) (M := [UInt8.ofNat (nm.length % 256)]) (C := nm ++ (leB 8 l1 ++ (leB 4 m ++ (leB 8 s ++ C)))) (n := 1) (x := nm.length) (.inl rfl) (by simp [leB]) (by omega) (by omega)
  have hnv : nameV (A ++ ([UInt8.ofNat (nm.length % 256)] ++ (nm ++ (leB 8 l1 ++ (leB 4 m ++ (leB 8 s ++ C)))))) A.length true = (nm, A.length + 1 + nm.length, true) := by
    unfold nameV
    rw [e1]
    dsimp only
    rw [if_pos ⟨rfl, rfl, by simp; omega⟩]
    rw [Int.toNat_natCast]
    congr 1
    rw [← List.append_assoc, show A.length + 1 = (A ++ [UInt8.ofNat (nm.length % 256)]).length by simp, List.drop_left, List.take_left]
  have e2 := numV_at (A := A ++ ([UInt8.ofNat (nm.length % 256)] ++ nm)) (M := leB 8 l1) (C := leB 4 m ++ (leB 8 s ++ C)) (n := 8) (x := l1) (.inr (.inr rfl)) rfl (by rw [show (256 : Nat) ^ 8 = 18446744073709551616 by decide]; omega) (by omega)
  have e3 := numV_at (A := A ++ ([UInt8.ofNat (nm.length % 256)] ++ (nm ++ leB 8 l1))) (M := leB 4 m) (C := leB 8 s ++ C) (n := 4) (x := m) (.inr (.inl rfl)) rfl (by rw [show (256 : Nat) ^ 4 = 4294967296 by decide]; omega) (by omega)
  have e4 := numV_at (A := A ++ ([UInt8.ofNat (nm.length % 256)] ++ (nm ++ (leB 8 l1 ++ leB 4 m)))) (M := leB 8 s) (C := C) (n := 8) (x := s) (.inr (.inr rfl)) rfl (by rw [show (256 : Nat) ^ 8 = 18446744073709551616 by decide]; omega) (by omega)
  have p2 : (A ++ ([UInt8.ofNat (nm.length % 256)] ++ nm)).length = A.length + 1 + nm.length := by simp; omega
  have p3 : (A ++ ([UInt8.ofNat (nm.length % 256)] ++ (nm ++ leB 8 l1))).length = A.length + 1 + nm.length + 8 := by simp; omega
  have p4 : (A ++ ([UInt8.ofNat (nm.length % 256)] ++ (nm ++ (leB 8 l1 ++ leB 4 m)))).length = A.length + 1 + nm.length + 8 + 4 := by simp; omega
  rw [p2] at e2
  rw [p3] at e3
  rw [p4] at e4
  simp only [List.append_assoc] at e2 e3 e4 hnv ⊢
  unfold snapV
  simp only [hnv, e2, e3, e4]
  simp; omega
theorem snapV_true {l : List UInt8} {p : Nat} {f : Bool} (h : (snapV l p f).2.2 = true) : f = true ∧ (snapV l p f).2.1 ≤ l.length ∧ p + 21 ≤ (snapV l p f).2.1 := by
  have hq := nameV_le (l := l) (p := p) (f := f)
  unfold snapV at h ⊢
  dsimp only at h ⊢
  simp only [Bool.and_eq_true] at h
  have h4 := h.2
  have h3 := hq.2.2 h.1.1.1
  generalize (nameV l p f).2.1 = q at *
  by_cases hp : q + 8 + 4 + 8 ≤ l.length
  · exact ⟨h3.2, hp, by omega⟩
  · have := getR_out (l := l) (p := q + 8 + 4) (n := 8) (.inr (.inr rfl)) hp
    unfold numV at h4
    rw [this] at h4
    simp at h4
theorem rdN_good {l : List UInt8} {ys : List Sn} {b : Int} (hk : ∀ x ∈ ys, SnOk x b) (hl : l = SnsB ys) : ∀ i, i ≤ ys.length → rdN l i = (ys.take i, (SnsB (ys.take i)).length, true)
  | 0, _ => by simp [rdN, SnsB]
  | i + 1, hi => by
    have ih := rdN_good hk hl i (by omega)
    have hs : l = SnsB (ys.take i) ++ (ys[i].bytes ++ SnsB (ys.drop (i + 1))) := by
      rw [hl]
      have h1 : ys = ys.take i ++ (ys[i] :: ys.drop (i + 1)) := by rw [← List.drop_eq_getElem_cons (by omega), List.take_append_drop]
      unfold SnsB
      rw [← List.flatMap_cons, ← List.flatMap_append, ← h1]
    have hat := snapV_at (A := SnsB (ys.take i)) (C := SnsB (ys.drop (i + 1))) (hk ys[i] (List.getElem_mem _))
    rw [← hs] at hat
    unfold rdN
    rw [ih]
    dsimp only
    rw [hat, SnsB_take (by omega), List.length_append, List.take_succ_eq_append_getElem (by omega)]

open Classical in
noncomputable def readR (l : List UInt8) (n b : Int) : List Sn × Int :=
  if ¬ (9 ≤ b ∧ b ≤ 16) ∨ n < 0 then ([], 2) else if hx : ∃ ys : List Sn, (ys.length : Int) = n ∧ putR ys b = (l, 0) then (hx.choose, 0) else ([], 210)
theorem putR_zero {ys : List Sn} {b : Int} {l : List UInt8} (e : putR ys b = (l, 0)) : (9 ≤ b ∧ b ≤ 16) ∧ GoodL ys b ∧ ys.length ≤ 64 ∧ l = SnsB ys := by
  unfold putR at e
  split at e
  · cases e
  · split at e
    · split at e
      · cases e
      · rename_i h1 h2 h3
        cases e
        exact ⟨by simpa using h1, h2, by omega, rfl⟩
    · cases e
theorem rdN_of {ys : List Sn} {b : Int} {l : List UInt8} (e : putR ys b = (l, 0)) : rdN l ys.length = (ys, l.length, true) := by
  obtain ⟨-, g, -, hl⟩ := putR_zero e
  have := rdN_good g.1 hl ys.length (Nat.le_refl _)
  rw [List.take_length, ← hl] at this
  exact this
theorem readR_is {l : List UInt8} {ys : List Sn} {n b : Int} (hn : (ys.length : Int) = n) (e : putR ys b = (l, 0)) : readR l n b = (ys, 0) := by
  have hx : ∃ ys : List Sn, (ys.length : Int) = n ∧ putR ys b = (l, 0) := ⟨ys, hn, e⟩
  obtain ⟨hb, -⟩ := putR_zero e
  unfold readR
  rw [if_neg (by omega), dif_pos hx]
  congr 1
  have h1 := rdN_of hx.choose_spec.2
  have h2 := rdN_of e
  have h3 : hx.choose.length = ys.length := by have := hx.choose_spec.1; omega
  rw [h3, h2] at h1
  cases h1; rfl
theorem readR_no {l : List UInt8} {n b : Int} (hb : 9 ≤ b ∧ b ≤ 16) (hn : 0 ≤ n) (e : ¬ ∃ ys : List Sn, (ys.length : Int) = n ∧ putR ys b = (l, 0)) : readR l n b = ([], 210) := by
  unfold readR
  rw [if_neg (by omega), dif_neg e]
theorem readR_bits {l : List UInt8} {n b : Int} (hb : ¬ (9 ≤ b ∧ b ≤ 16) ∨ n < 0) : readR l n b = ([], 2) := by
  unfold readR
  rw [if_pos hb]

theorem Equal_c {v w : Value} {l m : List UInt8} (hv : Bytes h v l) (hw : Bytes h w m) (hl : l.length < 1000000000) (hm : m.length < 1000000000) (H : K (.bool (decide (l = m))) h) : CallsH Try.prog 80 #[v, w] h K ⟨⟩ := by
  obtain ⟨o, c, rfl⟩ := hv.form
  obtain ⟨o2, c2, rfl⟩ := hw.form
  refine n80_calls ?_
  unfold n80
  by_cases hle : l.length = m.length
  · have hle' : (l.length : Int) = m.length := by omega
    simp (disch := omega) [hle']
    refine loopA1 (fun i : Nat => .int .i64 i) (fun i h' => h' = h ∧ i ≤ l.length ∧ ∀ j (h1 : j < l.length) (h2 : j < m.length), j < i → l[j] = m[j]) (fun i => l.length - i) 0 rfl ⟨rfl, by omega, fun j _ _ hj => by omega⟩ ?_
    rintro i h' ⟨rfl, hi, heq⟩
    by_cases hin : i = l.length
    · have : l = m := List.ext_getElem hle fun j h1 h2 => heq j h1 h2 (by omega)
      simp (disch := omega) [hin]
      simpa [this] using H
    · have hi1 : i < l.length := by omega
      have hi2 : i < m.length := by omega
      obtain ⟨a, rfl, -, hc, hA⟩ := hv.at (by omega)
      obtain ⟨a2, rfl, -, hc2, hA2⟩ := hw.at (by omega)
      have h1 := hA i hi1
      have h2 := hA2 i hi2
      by_cases he : l[i] = m[i]
      · have hte : ((l[i]).toNat : Int) = (m[i]).toNat := by rw [he]
        simp (disch := omega) [h1, h2, byteV, hte]
        refine ⟨i + 1, by simp, ⟨by omega, fun j a1 a2 hj => ?_⟩, by omega⟩
        by_cases e : j = i
        · subst e; exact he
        · exact heq j a1 a2 (by omega)
      · have hte : ¬ ((l[i]).toNat : Int) = (m[i]).toNat := fun e => he (UInt8.toNat_inj.1 (by omega))
        have hne : ¬ l = m := fun e => by subst e; exact he rfl
        simp (disch := omega) [h1, h2, byteV, hte]
        simpa [hne] using H
  · have hle' : ¬ (l.length : Int) = m.length := by omega
    have hne : ¬ l = m := fun e => hle (by rw [e])
    simp (disch := omega) [hle']
    simpa [hne] using H
end Go.Proofs.Ytgnmjcljljfldaa
