/- Tables: what is read off rows' bytes. -/
import Derived.Test.YtgnmjcljljfldaaRows4
import Derived.Test.YtgnmjcljljfldaaTab6
set_option linter.unusedSimpArgs false
set_option linter.unusedVariables false
namespace Go.Proofs.Ytgnmjcljljfldaa
open Go.Vc
variable {K : Value → Heap → Prop} {h : Heap}

/-- One's own list of snapshots. -/
def OwnRw (h : Heap) (v : Value) (xs : List Rw) : Prop := OwnS 5 h v (xs.flatMap Rw.cells)
@[simp] theorem Rw.cells_len (x : Rw) : x.cells.length = 5 := rfl
theorem flatr_len : ∀ xs : List Rw, (xs.flatMap Rw.cells).length = xs.length * 5
  | [] => rfl
  | x :: xs => by rw [List.flatMap_cons, List.length_append, flatr_len xs]; simp; omega
theorem flatr_get : ∀ (xs : List Rw) (i j : Nat) (hi : i < xs.length) (hj : j < 5), (xs.flatMap Rw.cells)[i * 5 + j]? = xs[i].cells[j]?
  | x :: xs, 0, j, _, hj => by
    rw [List.flatMap_cons, List.getElem?_append_left (by simp; omega)]; simp
  | x :: xs, i + 1, j, hi, hj => by
    rw [List.flatMap_cons, List.getElem?_append_right (by simp; omega)]
    simp only [Rw.cells_len, List.getElem_cons_succ]
    rw [← flatr_get xs i j (by simpa using hi) hj]
    congr 1; omega
theorem OwnRw.rws {v : Value} {xs : List Rw} (o : OwnRw h v xs) : Rws h v xs := by
  rcases o with ⟨rfl, h1⟩ | ⟨b, n, c, rest, e, fz, rfl, h1, h2, h3, h4, h5⟩
  · have := congrArg List.length h1
    rw [flatr_len] at this
    simp only [List.length_nil] at this
    exact .inl ⟨rfl, List.length_eq_zero_iff.1 (by omega)⟩
  · rw [flatr_len] at h1
    have hn : n = xs.length := by omega
    subst hn
    refine .inr ⟨_, c, rfl, h2, fun i hi => ⟨xs[i].cells, rfl, fun j hj => ?_, rfl⟩⟩
    simp only [Rw.cells_len] at hj
    rw [elt_elt, elt_mk, Nat.zero_add, hcell_of_block h3]
    simp only [List.getElem?_toArray]
    rw [List.getElem?_append_left (by rw [flatr_len]; omega), flatr_get xs i j hi hj, List.getElem?_eq_getElem (by simpa using hj)]
    rfl
theorem OwnRw.mod {S : Nat → Prop} {h' : Heap} {v : Value} {xs : List Rw} (o : OwnRw h v xs) (m : Mod S h h') (hS : ∀ b, blkV v = some b → ¬ S b) : OwnRw h' v xs := OwnS.mod o m hS
theorem OwnRw.ext {h' : Heap} {v : Value} {xs : List Rw} (o : OwnRw h v xs) (e : Ext h h') : OwnRw h' v xs := OwnS.ext o e
theorem appRw {v : Value} {xs : List Rw} {x : Rw} (o : OwnRw h v xs) (hl : xs.length < 1000000000)
    (H : ∀ v' h', OwnRw h' v' (xs ++ [x]) → Mod (fun b => blkV v = some b) (h.push (.cells (List.toArray x.cells) 25)) h' → (∀ b, blkV v' = some b → blkV v = some b ∨ h.size + 1 ≤ b) → K v' h') :
    Hp Try.prog false (Builtin.append_ #[22, 22] 22 #[v, .slice (some ⟨h.size, 0, none⟩) 1 1]) K (h.push (.cells (List.toArray x.cells) 25)) ⟨⟩ := by
  have hs : Src 5 (h.push (.cells (List.toArray x.cells) 25)) (.slice (some ⟨h.size, 0, none⟩) 1 1) 1 x.cells := .inr (.inl ⟨_, 1, rfl, rfl, Seg_new rfl⟩)
  refine Hp_append (e := 25) (s := 5) (by_ := 48) (n := xs.length) (k := 1) (by kernel_rfl) (by kernel_rfl) (OwnS.ext o (push_ext (.refl _))) (flatr_len xs) (by omega) hs ?_ (by omega) (by omega) fun v' h' h1 h2 h3 _ => ?_
  · intro u hu
    unfold Rw.cells at hu
    simp at hu
    rcases hu with rfl | rfl | rfl | rfl | rfl <;> rfl
  · refine H v' h' ?_ h2 (fun b hb => (h3 b hb).imp id (fun x => by simpa using x))
    unfold OwnRw
    rw [List.flatMap_append]
    simpa using h1

/-- Reading, pure. -/
def rdM (l : List UInt8) : Nat → List Rw × Nat × Bool
  | 0 => ([], 0, true)
  | i + 1 => ((rdM l i).1 ++ [(rowV l (rdM l i).2.1 (rdM l i).2.2).1], (rowV l (rdM l i).2.1 (rdM l i).2.2).2)
theorem rdM_len (l : List UInt8) : ∀ i, (rdM l i).1.length = i
  | 0 => rfl
  | i + 1 => by simp [rdM, rdM_len l i]
theorem rowV_at {A C : List UInt8} {x : Rw} {b : Int} (hk : RwOk x b) : rowV (A ++ (x.bytes ++ C)) A.length true = (x, A.length + x.bytes.length, true) := by
  obtain ⟨⟨n1, n2, -⟩, ⟨g0, g1, f0, f1⟩, hl⟩ := hk
  obtain ⟨nm, g, fl, p, m⟩ := x
  dsimp only at n1 n2 g0 g1 f0 f1 hl
  have hl0 : 0 ≤ p ∧ p ≤ 268435456 ∧ 0 ≤ m ∧ m ≤ 16777216 := by rcases hl with hl | ⟨hl1, hl2⟩; omega; have := hl1.1; have := hl1.2.1; omega
  obtain ⟨g, rfl⟩ := Int.eq_ofNat_of_zero_le (show 0 ≤ g by omega)
  obtain ⟨fl, rfl⟩ := Int.eq_ofNat_of_zero_le f0
  obtain ⟨p, rfl⟩ := Int.eq_ofNat_of_zero_le hl0.1
  obtain ⟨m, rfl⟩ := Int.eq_ofNat_of_zero_le hl0.2.2.1
  have hL : A ++ (Rw.bytes ⟨nm, (g : Nat), (fl : Nat), (p : Nat), (m : Nat)⟩ ++ C) = A ++ ([UInt8.ofNat (nm.length % 256)] ++ (nm ++ (leB 1 g ++ (leB 1 fl ++ (leB 8 p ++ (leB 4 m ++ C)))))) := by unfold Rw.bytes; simp
  have hlen : (Rw.bytes ⟨nm, (g : Nat), (fl : Nat), (p : Nat), (m : Nat)⟩).length = 1 + nm.length + 14 := by unfold Rw.bytes; simp; omega
  rw [hlen, hL]
  have e1 := numV_at (A := A) (M := [UInt8.ofNat (nm.length % 256)]) (C := nm ++ (leB 1 g ++ (leB 1 fl ++ (leB 8 p ++ (leB 4 m ++ C))))) (n := 1) (x := nm.length) (.inl rfl) (by simp [leB]) (by omega) (by omega)
  have hnv : nameV (A ++ ([UInt8.ofNat (nm.length % 256)] ++ (nm ++ (leB 1 g ++ (leB 1 fl ++ (leB 8 p ++ (leB 4 m ++ C))))))) A.length true = (nm, A.length + 1 + nm.length, true) := by
    unfold nameV
    rw [e1]
    dsimp only
    rw [if_pos ⟨rfl, rfl, by simp; omega⟩]
    rw [Int.toNat_natCast]
    congr 1
    rw [← List.append_assoc, show A.length + 1 = (A ++ [UInt8.ofNat (nm.length % 256)]).length by simp, List.drop_left, List.take_left]
  have e2 := numV_at (A := A ++ ([UInt8.ofNat (nm.length % 256)] ++ nm)) (M := leB 1 g) (C := leB 1 fl ++ (leB 8 p ++ (leB 4 m ++ C))) (n := 1) (x := g) (.inl rfl) rfl (by omega) (by omega)
  have e3 := numV_at (A := A ++ ([UInt8.ofNat (nm.length % 256)] ++ (nm ++ leB 1 g))) (M := leB 1 fl) (C := leB 8 p ++ (leB 4 m ++ C)) (n := 1) (x := fl) (.inl rfl) rfl (by omega) (by omega)
  have e4 := numV_at (A := A ++ ([UInt8.ofNat (nm.length % 256)] ++ (nm ++ (leB 1 g ++ leB 1 fl)))) (M := leB 8 p) (C := leB 4 m ++ C) (n := 8) (x := p) (.inr (.inr rfl)) rfl (by rw [show (256 : Nat) ^ 8 = 18446744073709551616 by decide]; omega) (by omega)
  have e5 := numV_at (A := A ++ ([UInt8.ofNat (nm.length % 256)] ++ (nm ++ (leB 1 g ++ (leB 1 fl ++ leB 8 p))))) (M := leB 4 m) (C := C) (n := 4) (x := m) (.inr (.inl rfl)) rfl (by rw [show (256 : Nat) ^ 4 = 4294967296 by decide]; omega) (by omega)
  have p2 : (A ++ ([UInt8.ofNat (nm.length % 256)] ++ nm)).length = A.length + 1 + nm.length := by simp; omega
  have p3 : (A ++ ([UInt8.ofNat (nm.length % 256)] ++ (nm ++ leB 1 g))).length = A.length + 1 + nm.length + 1 := by simp; omega
  have p4 : (A ++ ([UInt8.ofNat (nm.length % 256)] ++ (nm ++ (leB 1 g ++ leB 1 fl)))).length = A.length + 1 + nm.length + 1 + 1 := by simp; omega
  have p5 : (A ++ ([UInt8.ofNat (nm.length % 256)] ++ (nm ++ (leB 1 g ++ (leB 1 fl ++ leB 8 p))))).length = A.length + 1 + nm.length + 1 + 1 + 8 := by simp; omega
  rw [p2] at e2
  rw [p3] at e3
  rw [p4] at e4
  rw [p5] at e5
  simp only [List.append_assoc] at e2 e3 e4 e5 hnv ⊢
  unfold rowV
  simp only [hnv, e2, e3, e4, e5]
  simp; omega
theorem rowV_true {l : List UInt8} {p : Nat} {f : Bool} (h : (rowV l p f).2.2 = true) : f = true ∧ (rowV l p f).2.1 ≤ l.length ∧ p + 15 ≤ (rowV l p f).2.1 := by
  have hq := nameV_le (l := l) (p := p) (f := f)
  unfold rowV at h ⊢
  dsimp only at h ⊢
  simp only [Bool.and_eq_true] at h
  have h4 := h.2
  have h3 := hq.2.2 h.1.1.1.1
  generalize (nameV l p f).2.1 = q at *
  by_cases hp : q + 1 + 1 + 8 + 4 ≤ l.length
  · exact ⟨h3.2, hp, by omega⟩
  · have := getR_out (l := l) (p := q + 1 + 1 + 8) (n := 4) (.inr (.inl rfl)) hp
    unfold numV at h4
    rw [this] at h4
    simp at h4
theorem rdM_good {l : List UInt8} {ys : List Rw} {b : Int} (hk : ∀ x ∈ ys, RwOk x b) (hl : l = RwsB ys) : ∀ i, i ≤ ys.length → rdM l i = (ys.take i, (RwsB (ys.take i)).length, true)
  | 0, _ => by simp [rdM, RwsB]
  | i + 1, hi => by
    have ih := rdM_good hk hl i (by omega)
    have hs : l = RwsB (ys.take i) ++ (ys[i].bytes ++ RwsB (ys.drop (i + 1))) := by
      rw [hl]
      have h1 : ys = ys.take i ++ (ys[i] :: ys.drop (i + 1)) := by rw [← List.drop_eq_getElem_cons (by omega), List.take_append_drop]
      unfold RwsB
      rw [← List.flatMap_cons, ← List.flatMap_append, ← h1]
    have hat := rowV_at (A := RwsB (ys.take i)) (C := RwsB (ys.drop (i + 1))) (hk ys[i] (List.getElem_mem _))
    rw [← hs] at hat
    unfold rdM
    rw [ih]
    dsimp only
    rw [hat, RwsB_take (by omega), List.length_append, List.take_succ_eq_append_getElem (by omega)]

open Classical in
noncomputable def readM (l : List UInt8) (n b : Int) : List Rw × Int :=
  if ¬ (9 ≤ b ∧ b ≤ 16) ∨ n < 0 then ([], 2) else if hx : ∃ ys : List Rw, (ys.length : Int) = n ∧ putM ys b = (l, 0) then (hx.choose, 0) else ([], 210)
theorem putM_zero {ys : List Rw} {b : Int} {l : List UInt8} (e : putM ys b = (l, 0)) : (9 ≤ b ∧ b ≤ 16) ∧ GoodM ys b ∧ ys.length ≤ 64 ∧ l = RwsB ys := by
  unfold putM at e
  split at e
  · cases e
  · split at e
    · split at e
      · cases e
      · rename_i h1 h2 h3
        cases e
        exact ⟨by simpa using h1, h2, by omega, rfl⟩
    · cases e
theorem rdM_of {ys : List Rw} {b : Int} {l : List UInt8} (e : putM ys b = (l, 0)) : rdM l ys.length = (ys, l.length, true) := by
  obtain ⟨-, g, -, hl⟩ := putM_zero e
  have := rdM_good g.1 hl ys.length (Nat.le_refl _)
  rw [List.take_length, ← hl] at this
  exact this
theorem readM_is {l : List UInt8} {ys : List Rw} {n b : Int} (hn : (ys.length : Int) = n) (e : putM ys b = (l, 0)) : readM l n b = (ys, 0) := by
  have hx : ∃ ys : List Rw, (ys.length : Int) = n ∧ putM ys b = (l, 0) := ⟨ys, hn, e⟩
  obtain ⟨hb, -⟩ := putM_zero e
  unfold readM
  rw [if_neg (by omega), dif_pos hx]
  congr 1
  have h1 := rdM_of hx.choose_spec.2
  have h2 := rdM_of e
  have h3 : hx.choose.length = ys.length := by have := hx.choose_spec.1; omega
  rw [h3, h2] at h1
  cases h1; rfl
theorem readM_no {l : List UInt8} {n b : Int} (hb : 9 ≤ b ∧ b ≤ 16) (hn : 0 ≤ n) (e : ¬ ∃ ys : List Rw, (ys.length : Int) = n ∧ putM ys b = (l, 0)) : readM l n b = ([], 210) := by
  unfold readM
  rw [if_neg (by omega), dif_neg e]
theorem readM_bits {l : List UInt8} {n b : Int} (hb : ¬ (9 ≤ b ∧ b ≤ 16) ∨ n < 0) : readM l n b = ([], 2) := by
  unfold readM
  rw [if_pos hb]

end Go.Proofs.Ytgnmjcljljfldaa
