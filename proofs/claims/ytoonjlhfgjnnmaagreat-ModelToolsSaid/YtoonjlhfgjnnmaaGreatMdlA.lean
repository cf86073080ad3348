/- Model: sectors of bytes; images and worlds as ghosts. Model: what a write does to contents, plainly. Model: a write, cluster by cluster, plainly. Model: names, sizes; a world in memory. Model: which image; what lies above; a sector told. -/
import Derived.Test.YtoonjlhfgjnnmaaGreatVcSec
import Derived.Test.YtoonjlhfgjnnmaaGreatNice
import Derived.Test.YtoonjlhfgjnnmaaGreatFacts
import Derived.Test.YtoonjlhfgjnnmaaGreatVcMapR
import Derived.Test.YtoonjlhfgjnnmaaGreatVcStr
import Derived.Test.YtoonjlhfgjnnmaaGreatVcPtr
import Derived.Test.YtoonjlhfgjnnmaaGreatVcMapL
import Derived.Test.YtoonjlhfgjnnmaaGreatSrtK
set_option linter.unusedSimpArgs false
set_option linter.unusedVariables false
namespace Go.Proofs.YtoonjlhfgjnnmaaGreat
open Go.Vc

/-- Sector k of bytes. -/
def sct (l : List UInt8) (k : Nat) : List UInt8 := (l.drop (k * 512)).take 512
/-- A sector of noughts. -/
def z512 : List UInt8 := List.replicate 512 0
theorem z512_len : z512.length = 512 := List.length_replicate
theorem sct_len {l : List UInt8} {k : Nat} (h : k * 512 + 512 ≤ l.length) : (sct l k).length = 512 := by
  unfold sct; simp; omega
theorem sct_get {l : List UInt8} {k i : Nat} (hi : i < 512) : (sct l k)[i]? = l[k * 512 + i]? := by
  unfold sct
  rw [List.getElem?_take_of_lt hi, List.getElem?_drop]
/-- Bytes are known by their sectors. -/
theorem ext_sct {l l' : List UInt8} {n : Nat} (h1 : l.length = n * 512) (h2 : l'.length = n * 512) (h : ∀ k, k < n → sct l k = sct l' k) : l = l' := by
  apply List.ext_getElem?
  intro i
  by_cases hi : i < n * 512
  · have hk : i / 512 < n := by omega
    have := congrArg (fun x => x[i % 512]?) (h _ hk)
    simp only [sct_get (Nat.mod_lt _ (by decide : 512 > 0))] at this
    rw [show i / 512 * 512 + i % 512 = i by omega] at this
    exact this
  · rw [List.getElem?_eq_none (by omega), List.getElem?_eq_none (by omega)]
theorem over_get' {l new : List UInt8} {k i : Nat} (h : k + new.length ≤ l.length) : (over l k new)[i]? = if k ≤ i ∧ i < k + new.length then new[i - k]? else l[i]? := by
  unfold over
  by_cases h1 : i < k
  · rw [if_neg (by omega), List.append_assoc, List.getElem?_append_left (by simp; omega), List.getElem?_take_of_lt h1]
  · by_cases h2 : i < k + new.length
    · rw [if_pos ⟨by omega, h2⟩, List.getElem?_append_left (by simp; omega), List.getElem?_append_right (by simp; omega)]
      congr 1
      simp; omega
    · rw [if_neg (by omega), List.getElem?_append_right (by simp; omega), List.getElem?_drop]
      congr 1
      simp; omega
theorem sct_over {l s : List UInt8} {p m k : Nat} (hs : s.length = m * 512) (hp : p * 512 + s.length ≤ l.length) : sct (over l (p * 512) s) k = if p ≤ k ∧ k < p + m then sct s (k - p) else sct l k := by
  apply List.ext_getElem?
  intro i
  by_cases hi : i < 512
  · rw [sct_get hi, over_get' hp]
    by_cases h1 : p ≤ k ∧ k < p + m
    · rw [if_pos (by omega), if_pos h1, sct_get hi]
      congr 1
      have := h1.1
      rw [Nat.sub_mul]; have := Nat.mul_le_mul_right 512 h1.1; omega
    · rw [if_neg (by omega), if_neg h1, sct_get hi]
  · rw [List.getElem?_eq_none (by unfold sct; simp; omega)]
    split
    · rw [List.getElem?_eq_none (by unfold sct; simp; omega)]
    · rw [List.getElem?_eq_none (by unfold sct; simp; omega)]
theorem sct_take {l : List UInt8} {k n : Nat} (h : k * 512 + 512 ≤ n) : sct (l.take n) k = sct l k := by
  apply List.ext_getElem?
  intro i
  by_cases hi : i < 512
  · rw [sct_get hi, sct_get hi, List.getElem?_take_of_lt (by omega)]
  · rw [List.getElem?_eq_none (by unfold sct; simp; omega), List.getElem?_eq_none (by unfold sct; simp; omega)]
theorem sct_drop {l : List UInt8} {k j : Nat} : sct (l.drop (j * 512)) k = sct l (j + k) := by
  unfold sct
  first | rw [List.drop_drop, show j * 512 + k * 512 = (j + k) * 512 by omega] | rw [List.drop_drop, show k * 512 + j * 512 = (j + k) * 512 by omega]
theorem rep_aux (m n k : Nat) : ((List.replicate n (0 : UInt8)).drop k).take m = List.replicate (min m (n - k)) 0 := by
  rw [List.drop_replicate, List.take_replicate]
theorem sct_rep {n k : Nat} (h : k * 512 + 512 ≤ n) : sct (List.replicate n 0) k = z512 :=
  (rep_aux 512 n (k * 512)).trans (congrArg (fun m => List.replicate m (0 : UInt8)) (show min 512 (n - k * 512) = 512 by omega))

/-- A bitmap: its dirty granules `D`. -/
structure Bm where
  nm : List UInt8
  gran : Nat
  en : Bool
  m : Nat
  D : List (Int × Value)
/-- A snapshot. -/
structure Sn where
  nm : List UInt8
  n : Nat
  m : Nat
  F : List (Int × Value)
  G : Int → List UInt8
/-- An image: own clusters `F` (their slices) with the bytes `G`; n sectors; a cluster has cs of them. -/
structure Im where
  nm : List UInt8
  bk : List UInt8
  n : Nat
  bits : Nat
  cs : Nat
  b : Nat
  m : Nat
  F : List (Int × Value)
  G : Int → List UInt8
  sv : Value
  bv : Value
  S : List Sn
  B : List Bm
  /-- Blocks of bytes that are none of its clusters. -/
  Z : List Nat
def Im.isOwn (x : Im) (c : Nat) : Bool := (look2 (c : Int) x.F).isSome
/-- What sectors tell. -/
def conts : List Im → List UInt8 → Nat → List UInt8
  | [], _, _ => z512
  | x :: r, nm, k => if nm = x.nm then (if k < x.n then (if x.isOwn (k / x.cs) then sct (x.G ((k / x.cs : Nat) : Int)) (k % x.cs) else conts r x.bk k) else z512) else conts r nm k
/-- The image of a name. -/
def findI (nm : List UInt8) : List Im → Option Im
  | [] => none
  | x :: r => if nm = x.nm then some x else findI nm r
/-- How many lie behind it. -/
def posI (nm : List UInt8) : List Im → Nat
  | [] => 0
  | x :: r => if nm = x.nm then r.length + 1 else posI nm r
/-- Each image's backing lies behind it. -/
def ChainI : List Im → Prop
  | [] => True
  | x :: r => (x.bk = [] ∨ ∃ y, findI x.bk r = some y) ∧ ChainI r
/-- Another image of the same name put in. -/
def setI (x' : Im) (xs : List Im) : List Im := xs.map fun y => if y.nm = x'.nm then x' else y
theorem findI_mem {nm : List UInt8} {x : Im} : ∀ {xs : List Im}, findI nm xs = some x → x ∈ xs ∧ x.nm = nm
  | [], h => by cases h
  | y :: r, h => by
    unfold findI at h
    split at h
    · rename_i e; cases h; exact ⟨List.mem_cons_self, e.symm⟩
    · have := findI_mem h; exact ⟨List.mem_cons_of_mem _ this.1, this.2⟩
theorem findI_none {nm : List UInt8} : ∀ {xs : List Im}, findI nm xs = none ↔ ∀ x ∈ xs, x.nm ≠ nm
  | [] => by simp [findI]
  | y :: r => by
    unfold findI
    by_cases e : nm = y.nm
    · subst e; simp
    · rw [if_neg e, findI_none]
      simp only [List.mem_cons, forall_eq_or_imp]
      exact ⟨fun h => ⟨fun x => e x.symm, h⟩, fun h => h.2⟩
theorem conts_none {nm : List UInt8} {k : Nat} : ∀ {xs : List Im}, findI nm xs = none → conts xs nm k = z512
  | [], _ => rfl
  | y :: r, h => by
    unfold findI at h
    unfold conts
    split at h
    · cases h
    · rename_i e; rw [if_neg e]; exact conts_none h
theorem posI_le {nm : List UInt8} : ∀ {xs : List Im}, posI nm xs ≤ xs.length
  | [] => Nat.le_refl _
  | y :: r => by
    unfold posI
    split
    · simp
    · have := @posI_le nm r; simp; omega
/-- One step down a chain. -/
theorem chain_step {nm : List UInt8} {x : Im} {k : Nat} : ∀ {xs : List Im}, (xs.map (·.nm)).Nodup → (∀ y ∈ xs, y.nm ≠ []) → ChainI xs → findI nm xs = some x →
    conts xs nm k = (if k < x.n then (if x.isOwn (k / x.cs) then sct (x.G ((k / x.cs : Nat) : Int)) (k % x.cs) else conts xs x.bk k) else z512) ∧ posI x.bk xs < posI nm xs ∧ (x.bk = [] ∨ ∃ y, findI x.bk xs = some y)
  | [], _, _, _, h => by cases h
  | y :: r, hn, h0, hc, h => by
    simp only [List.map_cons, List.nodup_cons] at hn
    have hy0 := h0 y (by simp)
    unfold findI at h
    split at h
    · rename_i e
      cases h
      have hne : x.bk ≠ x.nm := fun e2 => by
        rcases hc.1 with h1 | ⟨z, hz⟩
        · rw [e2] at h1; exact hy0 h1
        · have := findI_mem hz
          exact hn.1 (by rw [← e2, ← this.2]; exact List.mem_map_of_mem this.1)
      refine ⟨?_, ?_, ?_⟩
      · conv => lhs; unfold conts
        rw [if_pos e]
        conv => rhs; unfold conts
        rw [if_neg hne]
      · unfold posI
        rw [if_neg hne, if_pos e]
        have := @posI_le x.bk r
        omega
      · unfold findI
        rw [if_neg hne]
        exact hc.1
    · rename_i e
      obtain ⟨h1, h2, h3⟩ := chain_step (k := k) hn.2 (fun z hz => h0 z (List.mem_cons_of_mem _ hz)) hc.2 h
      have hxm := findI_mem h
      have hne : x.bk = [] ∨ x.bk ≠ y.nm := by
        rcases h3 with h3 | ⟨z, hz⟩
        · exact .inl h3
        · have := findI_mem hz
          exact .inr fun e2 => hn.1 (by rw [← e2, ← this.2]; exact List.mem_map_of_mem this.1)
      have hne : x.bk ≠ y.nm := hne.elim (fun h => by rw [h]; exact fun e => hy0 e.symm) id
      refine ⟨?_, ?_, ?_⟩
      · conv => lhs; unfold conts
        rw [if_neg e, h1]
        conv => rhs; unfold conts
        rw [if_neg hne]
      · unfold posI
        rw [if_neg hne, if_neg e]; exact h2
      · unfold findI
        rw [if_neg hne]; exact h3
theorem findI_setI {nm : List UInt8} {x x' : Im} {xs : List Im} (hx : findI x'.nm xs = some x) : findI nm (setI x' xs) = if nm = x'.nm then some x' else findI nm xs := by
  induction xs with
  | nil => cases hx
  | cons y r ih =>
    unfold setI
    simp only [List.map_cons]
    by_cases e : y.nm = x'.nm
    · rw [if_pos e]
      unfold findI
      by_cases e2 : nm = x'.nm
      · rw [if_pos e2, if_pos e2]
      · rw [if_neg e2, if_neg e2, if_neg (by rw [e]; exact e2)]
        clear hx ih
        induction r with
        | nil => rfl
        | cons z r ih2 =>
          simp only [List.map_cons]
          unfold findI
          by_cases e3 : z.nm = x'.nm
          · rw [if_pos e3, if_neg e2, if_neg (by rw [e3]; exact e2)]; exact ih2
          · rw [if_neg e3]
            by_cases e4 : nm = z.nm
            · rw [if_pos e4, if_pos e4]
            · rw [if_neg e4, if_neg e4]; exact ih2
    · rw [if_neg e]
      unfold findI at hx ⊢
      rw [if_neg (fun h => e h.symm)] at hx
      have := ih hx
      unfold setI at this
      by_cases e2 : nm = y.nm
      · rw [if_pos e2, if_pos e2, if_neg (by rw [e2]; exact e)]
      · rw [if_neg e2, if_neg e2, this]
theorem mem_setI {x' y : Im} {xs : List Im} (h : y ∈ setI x' xs) : y = x' ∨ (y ∈ xs ∧ y.nm ≠ x'.nm) := by
  unfold setI at h
  obtain ⟨z, hz, rfl⟩ := List.mem_map.1 h
  split
  · exact .inl rfl
  · rename_i e; exact .inr ⟨hz, e⟩
theorem setI_setI {x' x'' : Im} {xs : List Im} (e : x''.nm = x'.nm) : setI x'' (setI x' xs) = setI x'' xs := by
  unfold setI
  rw [List.map_map]
  apply List.map_congr_left
  intro y _
  show (if (if y.nm = x'.nm then x' else y).nm = x''.nm then x'' else (if y.nm = x'.nm then x' else y)) = _
  by_cases h : y.nm = x'.nm
  · rw [if_pos h, if_pos e.symm, if_pos (by rw [e]; exact h)]
  · rw [if_neg h]
theorem setI_names {x' : Im} {xs : List Im} : (setI x' xs).map (·.nm) = xs.map (·.nm) := by
  unfold setI
  rw [List.map_map]
  apply List.map_congr_left
  intro y _
  show (if y.nm = x'.nm then x' else y).nm = y.nm
  split
  · rename_i e; exact e.symm
  · rfl
theorem setI_len {x' : Im} {xs : List Im} : (setI x' xs).length = xs.length := by simp [setI]
theorem findI_some_setI {nm : List UInt8} {x' : Im} {xs : List Im} : (∃ y, findI nm (setI x' xs) = some y) ↔ ∃ y, findI nm xs = some y := by
  have key : ∀ l : List Im, (∃ y, findI nm l = some y) ↔ nm ∈ l.map (·.nm) := fun l => by
    rw [← Option.isSome_iff_exists, Option.isSome_iff_ne_none, Ne, findI_none]
    simp only [List.mem_map, Classical.not_forall, Classical.not_not]
    exact ⟨fun ⟨x, h1, h2⟩ => ⟨x, h1, h2⟩, fun ⟨x, h1, h2⟩ => ⟨x, h1, h2⟩⟩
  rw [key, key, setI_names]
theorem chain_setI {x x' : Im} (eb : x'.bk = x.bk) : ∀ {xs : List Im}, (xs.map (·.nm)).Nodup → findI x'.nm xs = some x → ChainI xs → ChainI (setI x' xs)
  | [], _, _, _ => trivial
  | y :: r, hn, hx, hc => by
    simp only [List.map_cons, List.nodup_cons] at hn
    unfold setI
    simp only [List.map_cons]
    by_cases e : y.nm = x'.nm
    · rw [if_pos e]
      have hr : List.map (fun y => if y.nm = x'.nm then x' else y) r = r := by
        rw [List.map_congr_left (g := id)]
        · simp
        · intro z hz
          rw [if_neg (fun h => hn.1 (by rw [e, ← h]; exact List.mem_map_of_mem hz))]; rfl
      rw [hr]
      unfold findI at hx
      rw [if_pos e.symm] at hx
      cases hx
      exact ⟨by rw [eb]; exact hc.1, hc.2⟩
    · rw [if_neg e]
      unfold findI at hx
      rw [if_neg (fun h => e h.symm)] at hx
      refine ⟨hc.1.imp id fun h => ?_, chain_setI eb hn.2 hx hc.2⟩
      exact (findI_some_setI (x' := x')).2 h
/-- Who is not above it does not see it. -/
theorem conts_setI {x' : Im} {k : Nat} : ∀ {xs : List Im} {nm : List UInt8}, (∀ y ∈ xs, y.bk ≠ x'.nm) → nm ≠ x'.nm → conts (setI x' xs) nm k = conts xs nm k
  | [], _, _, _ => rfl
  | y :: r, nm, hb, hn => by
    unfold setI
    simp only [List.map_cons]
    have ih : ∀ nm, nm ≠ x'.nm → conts (r.map fun y => if y.nm = x'.nm then x' else y) nm k = conts r nm k := fun nm h => conts_setI (fun z hz => hb z (List.mem_cons_of_mem _ hz)) h
    by_cases e : y.nm = x'.nm
    · rw [if_pos e]
      unfold conts
      rw [if_neg hn, if_neg (by rw [e]; exact hn), ih nm hn]
    · rw [if_neg e]
      unfold conts
      rw [ih nm hn, ih y.bk (hb y (by simp))]
end Go.Proofs.YtoonjlhfgjnnmaaGreat
set_option linter.unusedSimpArgs false
set_option linter.unusedVariables false
namespace Go.Proofs.YtoonjlhfgjnnmaaGreat
open Go.Vc

/-- Names that are all different and not empty; backings behind. -/
structure Wl (xs : List Im) : Prop where
  nd : (xs.map (·.nm)).Nodup
  ne : ∀ y ∈ xs, y.nm ≠ []
  ch : ChainI xs
theorem setI_none {x' : Im} : ∀ {r : List Im}, (∀ z ∈ r, z.nm ≠ x'.nm) → setI x' r = r
  | [], _ => rfl
  | z :: r, h => by
    unfold setI
    simp only [List.map_cons]
    rw [if_neg (h z (by simp))]
    have := setI_none (x' := x') (r := r) (fun y hy => h y (List.mem_cons_of_mem _ hy))
    unfold setI at this
    rw [this]
/-- What lies behind it stays. -/
theorem conts_bk_setI {x x' : Im} {k : Nat} : ∀ {xs : List Im}, (xs.map (·.nm)).Nodup → (∀ y ∈ xs, y.nm ≠ []) → ChainI xs → findI x'.nm xs = some x → conts (setI x' xs) x.bk k = conts xs x.bk k
  | [], _, _, _, h => by cases h
  | y :: r, hn, h0, hc, h => by
    simp only [List.map_cons, List.nodup_cons] at hn
    have hy0 := h0 y (by simp)
    have hbk : ∀ z ∈ r, z.nm ≠ y.nm := fun z hz e => hn.1 (by rw [← e]; exact List.mem_map_of_mem hz)
    unfold findI at h
    split at h
    · rename_i e
      cases h
      have hne : x.bk ≠ x.nm := fun e2 => by
        rcases hc.1 with h1 | ⟨z, hz⟩
        · rw [e2] at h1; exact hy0 h1
        · have := findI_mem hz
          exact hbk z this.1 (by rw [this.2, e2])
      have hr : setI x' r = r := setI_none (fun z hz => by rw [e]; exact hbk z hz)
      have hs : setI x' (x :: r) = x' :: setI x' r := by
        unfold setI
        simp only [List.map_cons]
        rw [if_pos e.symm]
      rw [hs, hr]
      unfold conts
      rw [if_neg hne, if_neg (by rw [e]; exact hne)]
    · rename_i e
      have h3 := (chain_step (k := k) hn.2 (fun z hz => h0 z (List.mem_cons_of_mem _ hz)) hc.2 h).2.2
      have hne : x.bk ≠ y.nm := by
        rcases h3 with h3 | ⟨z, hz⟩
        · rw [h3]; exact fun e => hy0 e.symm
        · have := findI_mem hz
          exact fun e2 => hbk z this.1 (by rw [this.2, e2])
      have hs : setI x' (y :: r) = y :: setI x' r := by
        unfold setI
        simp only [List.map_cons]
        rw [if_neg (fun e2 => e e2.symm)]
      rw [hs]
      conv => lhs; unfold conts
      conv => rhs; unfold conts
      rw [if_neg hne, if_neg hne]
      exact conts_bk_setI hn.2 (fun z hz => h0 z (List.mem_cons_of_mem _ hz)) hc.2 h
theorem Wl.set {x x' : Im} {xs : List Im} (a : Wl xs) (hx : findI x'.nm xs = some x) (eb : x'.bk = x.bk) : Wl (setI x' xs) := by
  refine ⟨by rw [setI_names]; exact a.nd, fun y hy => ?_, chain_setI eb a.nd hx a.ch⟩
  rcases mem_setI hy with rfl | h
  · have := findI_mem hx
    rw [← this.2]; exact a.ne x this.1
  · exact a.ne y h.1
/-- One cluster of an image laid anew. -/
def Im.put (x : Im) (c : Nat) (v : Value) (d : List UInt8) : Im := { x with F := upd (c : Int) v x.F, G := fun i => if i = (c : Int) then d else x.G i }
theorem put_own {x : Im} {c : Nat} {v : Value} {d : List UInt8} (i : Nat) : (x.put c v d).isOwn i = (decide (i = c) || x.isOwn i) := by
  unfold Im.isOwn Im.put
  dsimp only
  rw [look2_upd]
  by_cases e : i = c
  · subst e; simp
  · rw [if_neg (by omega)]; simp [e]
/-- The bytes of a cluster, were it its own. -/
structure Base (xs : List Im) (x : Im) (c : Nat) (d : List UInt8) : Prop where
  len : d.length = x.cs * 512
  sct_ : ∀ k, k / x.cs = c → k < x.n → sct d (k % x.cs) = conts xs x.nm k
theorem base_own {xs : List Im} {x : Im} {c : Nat} (a : Wl xs) (hx : findI x.nm xs = some x) (hc : x.isOwn c = true) (hl : (x.G c).length = x.cs * 512) : Base xs x c (x.G c) := by
  refine ⟨hl, fun k hk hn => ?_⟩
  rw [(chain_step (k := k) a.nd a.ne a.ch hx).1, if_pos hn, hk, if_pos hc]
theorem put_conts {xs : List Im} {x : Im} {c : Nat} {v : Value} {d : List UInt8} (a : Wl xs) (hx : findI x.nm xs = some x) (k : Nat) :
    conts (setI (x.put c v d) xs) x.nm k = if k < x.n then (if k / x.cs = c then sct d (k % x.cs) else conts xs x.nm k) else z512 := by
  have e1 : (x.put c v d).nm = x.nm := rfl
  have hx' : findI (x.put c v d).nm xs = some x := hx
  have w := a.set hx' (show (x.put c v d).bk = x.bk from rfl)
  have hf : findI x.nm (setI (x.put c v d) xs) = some (x.put c v d) := by rw [findI_setI hx', if_pos e1.symm]
  have s1 := (chain_step (k := k) w.nd w.ne w.ch hf).1
  have s2 := (chain_step (k := k) a.nd a.ne a.ch hx).1
  rw [s1]
  show (if k < x.n then (if (x.put c v d).isOwn (k / x.cs) = true then sct ((x.put c v d).G ((k / x.cs : Nat) : Int)) (k % x.cs) else conts (setI (x.put c v d) xs) x.bk k) else z512) = _
  by_cases hn : k < x.n
  · rw [if_pos hn, if_pos hn]
    rw [if_pos hn] at s2
    rw [put_own]
    by_cases hc : k / x.cs = c
    · rw [if_pos hc, if_pos (by simp [hc])]
      unfold Im.put
      dsimp only
      rw [if_pos (by rw [hc])]
    · rw [if_neg hc, s2, conts_bk_setI a.nd a.ne a.ch hx']
      have : (decide (k / x.cs = c) || x.isOwn (k / x.cs)) = x.isOwn (k / x.cs) := by simp [hc]
      rw [this]
      unfold Im.put
      dsimp only
      rw [if_neg (fun e => hc (Int.ofNat_inj.1 e))]
  · rw [if_neg hn, if_neg hn]
/-- Sectors p .. p + m - 1, all of one cluster, written. -/
theorem put_over {xs : List Im} {x : Im} {c p m : Nat} {v : Value} {d s : List UInt8} (a : Wl xs) (hx : findI x.nm xs = some x) (hb : Base xs x c d) (hcs : 0 < x.cs) (hs : s.length = m * 512) (hp : p / x.cs = c) (hpm : p % x.cs + m ≤ x.cs) (hn : p + m ≤ x.n) (k : Nat) :
    conts (setI (x.put c v (over d (p % x.cs * 512) s)) xs) x.nm k = if p ≤ k ∧ k < p + m then sct s (k - p) else conts xs x.nm k := by
  rw [put_conts a hx]
  have hl := hb.len
  have hov : ∀ i, sct (over d (p % x.cs * 512) s) i = if p % x.cs ≤ i ∧ i < p % x.cs + m then sct s (i - p % x.cs) else sct d i := fun i => sct_over hs (by rw [hs, hl, ← Nat.add_mul]; exact Nat.mul_le_mul_right 512 hpm)
  have hpd : p = c * x.cs + p % x.cs := by have := Nat.div_add_mod p x.cs; rw [hp, Nat.mul_comm] at this; omega
  by_cases hk : k < x.n
  · rw [if_pos hk]
    have hkd := Nat.div_add_mod k x.cs
    have hkl := Nat.mod_lt k hcs
    by_cases hc : k / x.cs = c
    · rw [if_pos hc, hov]
      rw [hc, Nat.mul_comm] at hkd
      by_cases h1 : p ≤ k ∧ k < p + m
      · rw [if_pos h1, if_pos (by omega)]
        congr 1; omega
      · rw [if_neg h1, if_neg (by omega)]
        exact hb.sct_ k hc hk
    · rw [if_neg hc, if_neg]
      intro h1
      apply hc
      have e : k = x.cs * c + (p % x.cs + (k - p)) := by rw [Nat.mul_comm]; omega
      rw [e, Nat.mul_add_div hcs, Nat.div_eq_of_lt (by omega)]
      omega
  · rw [if_neg hk, if_neg (by omega), (chain_step (k := k) a.nd a.ne a.ch hx).1, if_neg hk]
end Go.Proofs.YtoonjlhfgjnnmaaGreat
set_option linter.unusedSimpArgs false
set_option linter.unusedVariables false
namespace Go.Proofs.YtoonjlhfgjnnmaaGreat
open Go.Vc

theorem sct_ge {l : List UInt8} {k i : Nat} (hi : ¬ i < 512) : (sct l k)[i]? = none := by
  rw [List.getElem?_eq_none]
  unfold sct
  rw [List.length_take]
  exact Nat.le_trans (Nat.min_le_left _ _) (Nat.le_of_not_lt hi)
theorem sct_app {s1 s2 : List UInt8} {m k : Nat} (h : s1.length = m * 512) : sct (s1 ++ s2) k = if k < m then sct s1 k else sct s2 (k - m) := by
  apply List.ext_getElem?
  intro i
  by_cases hi : i < 512
  · by_cases hk : k < m
    · rw [if_pos hk, sct_get hi, sct_get hi, List.getElem?_append_left (by rw [h]; have := Nat.mul_le_mul_right 512 hk; omega)]
    · have h5 := Nat.mul_le_mul_right 512 (Nat.le_of_not_lt hk)
      have e : k * 512 + i - s1.length = (k - m) * 512 + i := by rw [h, Nat.sub_mul]; omega
      have e2 : s1.length ≤ k * 512 + i := by rw [h]; exact Nat.le_trans h5 (Nat.le_add_right _ _)
      rw [if_neg hk, sct_get hi, sct_get hi, List.getElem?_append_right e2, e]
  · rw [sct_ge hi]
    split
    · rw [sct_ge hi]
    · rw [sct_ge hi]
/-- What is left of a write of m sectors from p on. -/
structure Wrote (xs : List Im) (x x' : Im) (p m : Nat) (s : List UInt8) : Prop where
  same : ∃ F G, x' = { x with F := F, G := G }
  cont : ∀ k, conts (setI x' xs) x.nm k = if p ≤ k ∧ k < p + m then sct s (k - p) else conts xs x.nm k
  own : ∀ c, x'.isOwn c = true ↔ x.isOwn c = true ∨ ∃ k, p ≤ k ∧ k < p + m ∧ k / x.cs = c
  key : ∀ c : Int, look2 c x'.F ≠ none → look2 c x.F ≠ none ∨ ∃ k : Nat, p ≤ k ∧ k < p + m ∧ ((k / x.cs : Nat) : Int) = c
theorem setI_self {x : Im} : ∀ {xs : List Im}, (xs.map (·.nm)).Nodup → findI x.nm xs = some x → setI x xs = xs
  | [], _, h => by cases h
  | y :: r, hn, h => by
    simp only [List.map_cons, List.nodup_cons] at hn
    unfold findI at h
    unfold setI
    simp only [List.map_cons]
    split at h
    · rename_i e
      cases h
      rw [if_pos rfl]
      have := setI_none (x' := x) (r := r) (fun z hz e => hn.1 (by rw [← e]; exact List.mem_map_of_mem hz))
      unfold setI at this
      rw [this]
    · rename_i e
      rw [if_neg (fun e2 => e e2.symm)]
      have := setI_self hn.2 h
      unfold setI at this
      rw [this]
theorem Wrote.zero {xs : List Im} {x : Im} (a : Wl xs) (hx : findI x.nm xs = some x) (p : Nat) : Wrote xs x x p 0 [] := by
  refine ⟨⟨x.F, x.G, rfl⟩, fun k => ?_, fun c => ?_, fun c h => .inl h⟩
  · rw [if_neg (by omega), setI_self a.nd hx]
  · exact ⟨.inl, fun h => h.elim id fun ⟨k, h1, h2, _⟩ => by omega⟩
theorem Wrote.facts {xs : List Im} {x x1 : Im} {p m : Nat} {s : List UInt8} (a : Wl xs) (hx : findI x.nm xs = some x) (l : Wrote xs x x1 p m s) : Wl (setI x1 xs) ∧ findI x1.nm (setI x1 xs) = some x1 ∧ x1.nm = x.nm ∧ x1.n = x.n ∧ x1.cs = x.cs ∧ x1.bits = x.bits := by
  obtain ⟨F, G, rfl⟩ := l.same
  have hx' : findI ({ x with F := F, G := G } : Im).nm xs = some x := hx
  exact ⟨a.set hx' rfl, by rw [findI_setI hx', if_pos rfl], rfl, rfl, rfl, rfl⟩
theorem Wrote.step {xs : List Im} {x x1 : Im} {p m m2 c : Nat} {s s2 d : List UInt8} {v : Value} (a : Wl xs) (hx : findI x.nm xs = some x) (l : Wrote xs x x1 p m s) (hs : s.length = m * 512)
    (hb : Base (setI x1 xs) x1 c d) (hcs : 0 < x.cs) (hs2 : s2.length = m2 * 512) (hm2 : 0 < m2) (hp : (p + m) / x.cs = c) (hpm : (p + m) % x.cs + m2 ≤ x.cs) (hn : p + m + m2 ≤ x.n) :
    Wrote xs x (x1.put c v (over d ((p + m) % x.cs * 512) s2)) p (m + m2) (s ++ s2) := by
  obtain ⟨w1, f1, en, ee, ec, eb⟩ := l.facts a hx
  have hov := fun k => put_over (v := v) (p := p + m) (m := m2) (s := s2) w1 f1 hb (by rw [ec]; exact hcs) hs2 (by rw [ec]; exact hp) (by rw [ec]; exact hpm) (by rw [ee]; exact hn) k
  rw [ec] at hov
  have hss : setI (x1.put c v (over d ((p + m) % x.cs * 512) s2)) (setI x1 xs) = setI (x1.put c v (over d ((p + m) % x.cs * 512) s2)) xs := setI_setI rfl
  refine ⟨?_, fun k => ?_, fun i => ?_, fun i hi => ?_⟩
  · obtain ⟨F, G, rfl⟩ := l.same
    exact ⟨_, _, rfl⟩
  · have h1 := hov k
    rw [hss, en] at h1
    rw [h1, l.cont k, sct_app hs]
    by_cases k1 : p + m ≤ k ∧ k < p + m + m2
    · rw [if_pos k1, if_pos (by omega), if_neg (by omega)]
      congr 1; omega
    · rw [if_neg k1]
      by_cases k2 : p ≤ k ∧ k < p + m
      · rw [if_pos k2, if_pos (by omega), if_pos (by omega)]
      · rw [if_neg k2, if_neg (by omega)]
  · rw [put_own]
    have hi := l.own i
    have hcl : ∀ k, p + m ≤ k → k < p + m + m2 → k / x.cs = c := fun k h1 h2 => by
      have hd := Nat.div_add_mod (p + m) x.cs
      rw [hp] at hd
      have e : k = x.cs * c + ((p + m) % x.cs + (k - (p + m))) := by omega
      rw [e, Nat.mul_add_div hcs, Nat.div_eq_of_lt (by omega)]
      omega
    simp only [Bool.or_eq_true, decide_eq_true_eq]
    rw [hi]
    constructor
    · rintro (rfl | h | ⟨k, h1, h2, h3⟩)
      · exact .inr ⟨p + m, by omega, by omega, hp⟩
      · exact .inl h
      · exact .inr ⟨k, h1, by omega, h3⟩
    · rintro (h | ⟨k, h1, h2, h3⟩)
      · exact .inr (.inl h)
      · by_cases hk : k < p + m
        · exact .inr (.inr ⟨k, h1, hk, h3⟩)
        · exact .inl (by rw [← h3]; exact hcl k (by omega) (by omega))
  · have hi' : look2 i (upd (c : Int) v x1.F) ≠ none := hi
    rw [look2_upd] at hi'
    by_cases e : i = (c : Int)
    · exact .inr ⟨p + m, by omega, by omega, by rw [hp, e]⟩
    · rw [if_neg e] at hi'
      rcases l.key i hi' with h | ⟨k, h1, h2, h3⟩
      · exact .inl h
      · exact .inr ⟨k, h1, by omega, h3⟩
/-- What an image tells behind a write. -/
theorem Wrote.others {xs : List Im} {x x' : Im} {p m : Nat} {s : List UInt8} (l : Wrote xs x x' p m s) (hab : ∀ y ∈ xs, y.bk ≠ x.nm) {nm : List UInt8} (hn : nm ≠ x.nm) (k : Nat) : conts (setI x' xs) nm k = conts xs nm k := by
  obtain ⟨F, G, rfl⟩ := l.same
  exact conts_setI hab hn
end Go.Proofs.YtoonjlhfgjnnmaaGreat
set_option linter.unusedSimpArgs false
set_option linter.unusedVariables false
namespace Go.Vc
/-- A loop without variables; what comes next is hidden. -/
theorem loopX0 {α : Type} {body : (Heap → Prop) → Heap → Prop} {h : Heap} (g : α → Heap → Prop) (μ : α → Nat) (a0 : α) (hg : g a0 h)
    (hb : ∀ a h, g a h → ∀ X : Heap → Prop, (∀ a' h', g a' h' → μ a' < μ a → X h') → body X h) : LoopC 0 body [] h ⟨⟩ := by
  refine loopA0 g μ a0 hg fun a h hga => ?_
  exact hb a h hga _ (fun a' h' h1 h2 => ⟨a', h1, h2⟩)
end Go.Vc
namespace Go.Proofs.YtoonjlhfgjnnmaaGreat
open Go.Vc
variable {K : Value → Heap → Prop} {h : Heap}

/-! ### Names -/
structure OkN (l : List UInt8) : Prop where
  ne : l ≠ []
  le : l.length ≤ 64
  ch : ∀ b ∈ l, 33 ≤ b.toNat ∧ b.toNat ≤ 126
theorem bad_c {b : UInt8} (hb : 33 ≤ b.toNat ∧ b.toNat ≤ 126) (H : K (.bool false) h) : InvokeH Tryz.prog (.func (.func 61) #[] #[]) #[.int .i32 b.toNat] h K ⟨⟩ := by
  refine InvokeH_f1 (by kernel_rfl) ?_
  refine n61_calls ?_
  unfold n61
  simp (disch := omega)
  exact H
theorem contains_c {l : List UInt8} (a : OkN l) (H : ∀ h', Ext h h' → K (.bool false) h') : CallsH Tryz.prog 60 #[str l, .func (.func 61) #[] #[]] h K ⟨⟩ := by
  refine n60_calls ?_
  unfold n60
  refine n78_calls ?_
  unfold n78
  refine n88_calls ?_
  unfold n88
  refine Hp_rangeStr (by kernel_rfl) fun h1 e1 s1 z1 => ?_
  have e0 : ∀ g, StrIt g h.size l l.length → Ext h g → K (.bool false) g := fun g _ e => H g e
  refine loopX0 (α := Nat) (fun i g => Ext h g ∧ StrIt g h.size l i ∧ i ≤ l.length) (fun i => l.length - i) 0 ⟨e1, s1, by omega⟩ ?_
  rintro i g ⟨e, st, hi⟩ X hX
  by_cases hin : i < l.length
  · have hb := a.ch _ (List.getElem_mem hin)
    refine Hp_nextStr st (List.getElem?_eq_getElem hin) (by omega) fun g2 m2 st2 => ?_
    simp (disch := omega)
    refine bad_c hb ?_
    simp (disch := omega)
    exact hX (i + 1) _ ⟨m2.ext_from e (fun b hb e => by have e' : b = h.size := e; omega), st2, hin⟩ (by omega)
  · obtain rfl : i = l.length := by omega
    rw [Hp_nextStr0 st (Nat.le_refl _)]
    simp (disch := omega)
    exact H g e
theorem named_c {l : List UInt8} {b : Nat} (a : OkN l) (hb : h[b]? = some (.cells #[str l] 9)) (H : ∀ h', Ext h h' → K (.bool true) h') : CallsH Tryz.prog 30 #[.slice (some ⟨b, 0, none⟩) 1 1] h K ⟨⟩ := by
  refine n30_calls ?_
  unfold n30
  simp (disch := omega)
  have h0 : hcell h ⟨b, 0, none⟩ = some (str l) := by unfold hcell; simp [hb]
  refine loopX1 (α := Nat) (fun i => .int .i64 i) (fun i g => Ext h g ∧ i ≤ 1) (fun i => 1 - i) 0 rfl ⟨.refl _, by omega⟩ ?_
  rintro i g ⟨e, hi⟩ X hX
  have hl := a.le
  have hne := a.ne
  by_cases hin : i < 1
  · obtain rfl : i = 0 := by omega
    have h1 := hcell_ext e h0
    simp (disch := omega) [elt_zero, h1]
    refine contains_c a fun g2 e2 => ?_
    simp (disch := omega) [hne]
    exact hX 1 _ _ (by simp) ⟨e.trans e2, by omega⟩ (by omega)
  · obtain rfl : i = 1 := by omega
    simp (disch := omega)
    exact H _ e
theorem sized_c {n : Nat} (hn : n ≤ 131072) (H : K (.bool true) h) : CallsH Tryz.prog 53 #[.int .i64 ((n * 512 : Nat) : Int)] h K ⟨⟩ := by
  refine n53_calls ?_
  unfold n53
  have e1 : ((n * 512 : Nat) : Int) % 512 = 0 := by omega
  have e2 : Int.tmod ((n * 512 : Nat) : Int) 512 = 0 := by rw [Int.tmod_eq_emod_of_nonneg (by omega)]; exact e1
  have hN : n * 512 ≤ 67108864 := by omega
  generalize n * 512 = N at *
  simp (disch := omega) [e1, e2]
  exact H
theorem wide_c {n : Int} (hn : 9 ≤ n ∧ n ≤ 16) (H : K (.bool true) h) : CallsH Tryz.prog 40 #[.int .i64 n] h K ⟨⟩ := by
  refine n40_calls ?_
  unfold n40
  simp (disch := omega)
  exact H

/-! ### In memory -/
def wdT : Nat := 87
def imT : Nat := 72
def snT : Nat := 78
def bmT : Nat := 75
def u8T : Nat := 5
abbrev ik : Int → Value := .int .i64
/-- Clusters: a map of slices, and their bytes. -/
structure ClAt (h : Heap) (m cs : Nat) (F : List (Int × Value)) (G : Int → List UInt8) (Z : List Nat) : Prop where
  map : MapK ik h m F
  byt : ∀ c v, look2 c F = some v → OwnT u8T 1 h v ((G c).map byteV) ∧ (G c).length = cs * 512
  out : ∀ c v b, look2 c F = some v → blkV v = some b → b ∉ Z
def snC (s : Sn) : List Value := [str s.nm, .int .i64 ((s.n * 512 : Nat) : Int), .map (some s.m)]
def bmC (b : Bm) : List Value := [str b.nm, .int .i64 b.gran, .bool b.en, .map (some b.m)]
structure ImAt (h : Heap) (x : Im) : Prop where
  cells : h[x.b]? = some (.cells #[str x.nm, str x.bk, .int .i64 ((x.n * 512 : Nat) : Int), .int .i64 x.bits, .map (some x.m), x.sv, x.bv] imT)
  cl : ClAt h x.m x.cs x.F x.G x.Z
  n : x.n ≤ 131072
  bits : 9 ≤ x.bits ∧ x.bits ≤ 16
  cs : 2 ^ x.bits = x.cs * 512
  sn : OwnT snT 3 h x.sv (x.S.flatMap snC)
  snc : ∀ s ∈ x.S, ClAt h s.m x.cs s.F s.G x.Z
  bm : OwnT bmT 4 h x.bv (x.B.flatMap bmC)
  bmd : ∀ b ∈ x.B, MapK ik h b.m b.D
  mne : x.m ≠ x.b
  bnd : (x.m :: (x.S.map (·.m) ++ x.B.map (·.m))).Nodup
  zlt : ∀ b ∈ x.Z, b < h.size
/-- The blocks that calls may change of an image. -/
def footI (x : Im) (b : Nat) : Prop := b = x.b ∨ b = x.m ∨ (∃ s ∈ x.S, b = s.m) ∨ (∃ y ∈ x.B, b = y.m) ∨ blkV x.sv = some b ∨ blkV x.bv = some b
/-- Apart from the block of bytes. -/
theorem ClAt.mod {S : Nat → Prop} {h' : Heap} {m cs : Nat} {F : List (Int × Value)} {G : Int → List UInt8} {Z : List Nat} (a : ClAt h m cs F G Z) (e : Mod S h h') (h1 : ¬ S m) (h2 : ∀ b arr, h[b]? = some (.cells arr u8T) → b ∉ Z → ¬ S b) : ClAt h' m cs F G Z :=
  ⟨a.map.mod e h1, fun c v hv => ⟨(a.byt c v hv).1.mod e (fun b hb => by obtain ⟨arr, ha⟩ := (a.byt c v hv).1.tag hb; exact h2 b arr ha (a.out c v b hv hb)), (a.byt c v hv).2⟩, a.out⟩
theorem ImAt.mod {S : Nat → Prop} {h' : Heap} {x : Im} (a : ImAt h x) (e : Mod S h h') (h1 : ∀ b, footI x b → ¬ S b) (h2 : ∀ b arr, h[b]? = some (.cells arr u8T) → b ∉ x.Z → ¬ S b) : ImAt h' x :=
  ⟨(e.block _ (get_some_lt a.cells) (h1 _ (.inl rfl))).trans a.cells, a.cl.mod e (h1 _ (.inr (.inl rfl))) h2, a.n, a.bits, a.cs, a.sn.mod e (fun b hb => h1 b (.inr (.inr (.inr (.inr (.inl hb)))))), fun s hs => (a.snc s hs).mod e (h1 _ (.inr (.inr (.inl ⟨s, hs, rfl⟩)))) h2,
    a.bm.mod e (fun b hb => h1 b (.inr (.inr (.inr (.inr (.inr hb)))))), fun b hb => (a.bmd b hb).mod e (h1 _ (.inr (.inr (.inr (.inl ⟨b, hb, rfl⟩))))), a.mne, a.bnd, fun b hb => Nat.lt_of_lt_of_le (a.zlt b hb) e.size⟩
theorem ImAt.ext {h' : Heap} {x : Im} (a : ImAt h x) (e : Ext h h') : ImAt h' x := a.mod (S := fun _ => False) (.of_ext e) (fun _ _ x => x) (fun _ _ _ _ x => x)
theorem ImAt.lt {x : Im} (a : ImAt h x) {b : Nat} (hb : footI x b) : b < h.size := by
  rcases hb with rfl | rfl | ⟨s, hs, rfl⟩ | ⟨y, hy, rfl⟩ | e | e
  · exact get_some_lt a.cells
  · exact a.cl.map.lt
  · exact (a.snc s hs).map.lt
  · exact (a.bmd y hy).lt
  · exact a.sn.lt e
  · exact a.bm.lt e
/-- A world. -/
structure WdAt (h : Heap) (w wm : Nat) (xs : List Im) : Prop where
  cells : h[w]? = some (.cells #[.map (some wm)] wdT)
  map : ∃ M, MapK str h wm M ∧ ∀ nm, look2 nm M = (findI nm xs).map (fun x => ptrV x.b)
  wl : Wl xs
  im : ∀ x ∈ xs, ImAt h x
  ap : ∀ x ∈ xs, ∀ y ∈ xs, x.nm ≠ y.nm → ∀ b, footI x b → ¬ footI y b
  wf : ∀ x ∈ xs, ¬ footI x w ∧ ¬ footI x wm
  nm : ∀ x ∈ xs, x.nm.length ≤ 64
  few : xs.length < 1000000
end Go.Proofs.YtoonjlhfgjnnmaaGreat
set_option linter.unusedSimpArgs false
set_option linter.unusedVariables false
namespace Go.Proofs.YtoonjlhfgjnnmaaGreat
open Go.Vc
variable {K : Value → Heap → Prop} {h : Heap}

theorem cellOf {b i : Nat} {arr : Array Value} {t : Go.TypeId} {v : Value} (hb : h[b]? = some (.cells arr t)) (hv : arr[i]? = some v) : hcell h ⟨b, i, none⟩ = some v := by
  unfold hcell; simp [hb, hv]
theorem frzOf {b i : Nat} {arr : Array Value} {t : Go.TypeId} (hb : h[b]? = some (.cells arr t)) : hfrozen h ⟨b, i, none⟩ = false := by
  unfold hfrozen; simp [hb]
theorem imKey : KeyT Tryz.prog 85 (List UInt8) str := KeyT.str (by kernel_rfl)
theorem clKey : KeyT Tryz.prog 68 Int ik := KeyT.int (by kernel_rfl)
/-- What the map of images tells for a name. -/
def ptrOf (xs : List Im) (nm : List UInt8) : Value := ((findI nm xs).map fun x => ptrV x.b).getD (.pointer none)
theorem WdAt.look {w wm : Nat} {xs : List Im} (a : WdAt h w wm xs) (q : Bool) (nm : List UInt8) (K : Value → Heap → Prop) : Hp Tryz.prog q (Go.Instr.lookup 85 (.map (some wm)) (str nm) false) K h ⟨⟩ ↔ K (ptrOf xs nm) h := by
  obtain ⟨M, hm, hl⟩ := a.map
  rw [Hp_lookup imKey (z := .pointer none) (by kernel_rfl) hm, hl]
  exact Iff.rfl
theorem none_c {w wm : Nat} {xs : List Im} (a : WdAt h w wm xs) (H : K (.bool false) h) : CallsH Tryz.prog 45 #[ptrV w] h K ⟨⟩ := by
  refine n45_calls ?_
  unfold n45 ptrV
  simp (disch := omega) [cellOf (i := 0) a.cells rfl]
  exact H
theorem WdAt.ext {h' : Heap} {w wm : Nat} {xs : List Im} (a : WdAt h w wm xs) (e : Ext h h') : WdAt h' w wm xs := by
  obtain ⟨M, hm, hl⟩ := a.map
  exact ⟨(e.block _ (get_some_lt a.cells)).trans a.cells, ⟨M, hm.ext e, hl⟩, a.wl, fun x hx => (a.im x hx).ext e, a.ap, a.wf, a.nm, a.few⟩
theorem which_c {w wm : Nat} {xs : List Im} {nm : List UInt8} (a : WdAt h w wm xs) (hn : OkN nm) (H : ∀ h', Ext h h' → K (match findI nm xs with | some x => .tuple #[ptrV x.b, .int .i64 0] | none => .tuple #[.pointer none, .int .i64 7]) h') : CallsH Tryz.prog 29 #[ptrV w, .bool true, str nm] h K ⟨⟩ := by
  refine n29_calls ?_
  unfold n29
  refine none_c a ?_
  simp (disch := omega)
  refine named_c hn (get_pushed rfl) fun h2 e2 => ?_
  have a2 := a.ext (((by repeat' (first | (with_reducible exact Ext.refl _) | (with_reducible assumption) | (with_reducible refine push_ext ?_) | (with_reducible refine hset_ext ?_ ?_) | (with_reducible refine Ext.trans ?_ (by assumption)) | omega | (simp; done) | (simp; omega) | (refine Ext.size ?_) | (refine Nat.le_succ_of_le (Ext.size ?_)))) : Ext h (h.push (.cells #[str nm] 9))).trans e2)
  have e1 : Ext h h2 := ((by repeat' (first | (with_reducible exact Ext.refl _) | (with_reducible assumption) | (with_reducible refine push_ext ?_) | (with_reducible refine hset_ext ?_ ?_) | (with_reducible refine Ext.trans ?_ (by assumption)) | omega | (simp; done) | (simp; omega) | (refine Ext.size ?_) | (refine Nat.le_succ_of_le (Ext.size ?_)))) : Ext h (h.push (.cells #[str nm] 9))).trans e2
  unfold ptrV
  simp (disch := omega) [cellOf (i := 0) a2.cells rfl, a2.look]
  have := H h2 e1
  unfold ptrOf
  cases hf : findI nm xs with
  | none =>
    rw [hf] at this
    simp (disch := omega)
    exact this
  | some x =>
    rw [hf] at this
    unfold ptrV at this ⊢
    simp (disch := omega)
    exact this
theorem there_c {x : Im} {p m : Int} (a : ImAt h x) (hp : -9223372036854775808 ≤ p ∧ p < 9223372036854775808) (hm : 0 ≤ m ∧ m < 9223372036854775808) (H : K (.bool (decide (0 ≤ p ∧ p + m ≤ x.n))) h) : CallsH Tryz.prog 59 #[ptrV x.b, .int .i64 p, .int .i64 m] h K ⟨⟩ := by
  refine n59_calls ?_
  unfold n59 ptrV
  have c2 := cellOf (i := 2) a.cells rfl
  have e2 : ((x.n * 512 : Nat) : Int) / 512 = (x.n : Int) := by omega
  have hn := a.n
  have hN : x.n * 512 ≤ 67108864 := by omega
  have key : ∀ b : Bool, (b = true ↔ 0 ≤ p ∧ p + m ≤ (x.n : Int)) → K (.bool b) h := fun b hb => by
    rwa [show decide (0 ≤ p ∧ p + m ≤ (x.n : Int)) = b from by rw [Bool.eq_iff_iff, hb]; simp] at H
  clear H
  generalize x.n * 512 = N at *
  by_cases k1 : 0 ≤ p
  · by_cases k2 : p ≤ x.n
    · by_cases k3 : m ≤ x.n - p
      · simp (disch := omega) [c2, e2, k1, k2, k3]
        exact key true (by simp; omega)
      · simp (disch := omega) [c2, e2, k1, k2, k3]
        exact key false (by simp; omega)
    · simp (disch := omega) [c2, e2, k1, k2]
      exact key false (by simp; omega)
  · simp (disch := omega) [c2, e2, k1]
    exact key false (by simp; omega)

/-- A sector told into a part of one's own bytes. -/
theorem sector_c {w wm k B n c lo m c' e : Nat} {xs : List Im} {nm : List UInt8} {L : List UInt8} (a : WdAt h w wm xs) (o : OwnT e 1 h (.slice (some ⟨B, 0, none⟩) n c) (L.map byteV)) (hlo : lo + m ≤ n) (hm : 512 ≤ m) (hmc : m ≤ c') (hk : k < 131072)
    (H : ∀ h', OwnT e 1 h' (.slice (some ⟨B, 0, none⟩) n c) ((over L lo (conts xs nm k)).map byteV) → Mod (· = B) h h' → K (.tuple #[]) h') :
    CallsH Tryz.prog 44 #[ptrV w, .slice (some (sub ⟨B, 0, none⟩ lo c)) m c', ptrOf xs nm, .int .i64 k] h K ⟨⟩ := by
  refine n44_calls ?_
  unfold n44
  refine loopX1 (α := List UInt8) (fun nm' => ptrOf xs nm') (fun nm' g => g = h ∧ conts xs nm' k = conts xs nm k) (fun nm' => posI nm' xs) nm rfl ⟨rfl, rfl⟩ ?_
  rintro nm' g ⟨rfl, hc⟩ X hX
  have zero : ∀ (K0 : Value → Heap → Prop), conts xs nm k = z512 → (∀ h', OwnT e 1 h' (.slice (some ⟨B, 0, none⟩) n c) ((over L lo (conts xs nm k)).map byteV) → Mod (· = B) g h' → K0 (.tuple #[]) h') → Hp Tryz.prog false (Go.Builtin.clear_ #[32] 0 #[.slice (some (sub ⟨B, 0, none⟩ lo c)) 512 c']) K0 g ⟨⟩ := fun K0 hz H0 => by
    refine Hp_clearAt (e2 := u8T) (by kernel_rfl) (by kernel_rfl) o (by omega) fun h' o' m' => ?_
    exact H0 h' (by rw [hz]; exact o') m'
  cases hf : findI nm' xs with
  | none =>
    have hz : conts xs nm k = z512 := by rw [← hc]; exact conts_none hf
    have hp : ptrOf xs nm' = .pointer none := by unfold ptrOf; rw [hf]; rfl
    rw [hp]
    simp (disch := omega)
    refine zero _ hz fun h' o' m' => ?_
    exact H h' o' m'
  | some x =>
    have hp : ptrOf xs nm' = ptrV x.b := by unfold ptrOf; rw [hf]; rfl
    rw [hp]
    obtain ⟨hx, hxn⟩ := findI_mem hf
    obtain ⟨s1, s2, s3⟩ := chain_step (k := k) a.wl.nd a.wl.ne a.wl.ch hf
    have ax := a.im x hx
    have c1 := cellOf (i := 1) ax.cells rfl
    have c2 := cellOf (i := 2) ax.cells rfl
    have c3 := cellOf (i := 3) ax.cells rfl
    have c4 := cellOf (i := 4) ax.cells rfl
    have e2 : ((x.n * 512 : Nat) : Int) / 512 = (x.n : Int) := by omega
    have hn := ax.n
    have hN : x.n * 512 ≤ 67108864 := by omega
    obtain ⟨hb9, hb16⟩ := ax.bits
    have hcs := ax.cs
    obtain ⟨W, hW⟩ : ∃ W, 2 ^ x.bits = W := ⟨_, rfl⟩
    rw [hW] at hcs
    have hWl : 512 ≤ W ∧ W ≤ 65536 := by
      rw [← hW]
      exact ⟨Nat.le_trans (by decide : 512 ≤ 2 ^ 9) (Nat.pow_le_pow_right (by decide) hb9), Nat.le_trans (Nat.pow_le_pow_right (by decide) hb16) (by decide)⟩
    have hcs0 : 0 < x.cs := by omega
    unfold ptrV
    obtain ⟨N, hN9⟩ : ∃ N, N = x.n * 512 := ⟨_, rfl⟩
    rw [← hN9] at c2 e2 hN
    by_cases hk2 : k < x.n
    · rw [if_pos hk2] at s1
      have hsh := fun (q : Bool) (tt : Nat) (o1 o2 : Go.Operand) (g : Heap) (K : Value → Heap → Prop) => Hp_shrW (P := Tryz.prog) (q := q) (t := tt) (x := o1) (y := o2) (k' := .i64) (K := K) (h := g) (a := (k : Int) * 512) hW (by omega) (by omega)
      simp (disch := omega) [c2, c3, c4, e2, hsh]
      have ed : ((k : Int) * 512 / (W : Int)) = ((k / x.cs : Nat) : Int) := by
        have h1 : k * 512 / W = k / x.cs := by rw [hcs]; exact Nat.mul_div_mul_right k x.cs (by omega)
        rw [← h1, Int.natCast_ediv, Int.natCast_mul]; rfl
      rw [ed, Hp_lookup clKey (z := .slice none 0 0) (by kernel_rfl) ax.cl.map]
      by_cases hown : x.isOwn (k / x.cs) = true
      · rw [if_pos hown] at s1
        obtain ⟨cv, hcv⟩ := Option.isSome_iff_exists.1 hown
        obtain ⟨ob, og⟩ := ax.cl.byt _ _ hcv
        rw [hcv]
        obtain ⟨va, vn, vc, rfl, hvn, hvc, hvb⟩ := ob.form (by omega)
        have hgl : (x.G ((k / x.cs : Nat) : Int)).length = vn := by simpa using hvn
        obtain ⟨vb, rfl⟩ := hvb (by
          intro e0
          rw [List.map_eq_nil_iff.1 e0] at og
          simp at og
          omega)
        have hmod : ((k : Int) * 512 % (W : Int)) = ((k % x.cs * 512 : Nat) : Int) := by
          have h1 : k * 512 % W = k % x.cs * 512 := by rw [hcs]; exact Nat.mul_mod_mul_right 512 k x.cs
          rw [← h1, Int.natCast_emod, Int.natCast_mul]; rfl
        have hkl := Nat.mod_lt k hcs0
        obtain ⟨j, hj⟩ : ∃ j, j = k % x.cs := ⟨_, rfl⟩
        rw [← hj] at hmod s1 hkl
        have hjv : j * 512 + 512 ≤ vn := by
          rw [← hgl, og]
          have := Nat.mul_le_mul_right 512 hkl
          omega
        have hsl := fun (q : Bool) (tt : Nat) (o1 o2 : Go.Operand) (g : Heap) (K : Value → Heap → Prop) => Hp_shlW (P := Tryz.prog) (q := q) (t := tt) (x := o1) (y := o2) (k' := .i64) (K := K) (h := g) (a := 1) hW (by omega) (by omega) (by omega)
        have hand := fun (q : Bool) (tt : Nat) (o1 o2 : Go.Operand) (g : Heap) (K : Value → Heap → Prop) => Hp_andW (P := Tryz.prog) (q := q) (t := tt) (x := o1) (y := o2) (K := K) (h := g) (a := (k : Int) * 512) (m := (W : Int) - 1) hW rfl (by omega) (by omega) (by omega)
        simp (disch := omega) [c3, hsl, hand, hmod]
        obtain ⟨J, hJ⟩ : ∃ J, J = j * 512 := ⟨_, rfl⟩
        rw [show ((j : Int) * 512).toNat = J by omega]
        have hJv : J + 512 ≤ vn := by omega
        have hpt := ob.part (lo := J) (hi := vn) (c' := vc - J) (by omega) (Nat.le_refl _) (by omega)
        have hlo2 : lo + 512 ≤ n := by omega
        refine Hp_copyAt (m := 512) (by kernel_rfl) o hlo2 hpt fun h' o' m' => ?_
        refine H h' ?_ m'
        have hct : (((x.G ((k / x.cs : Nat) : Int)).take vn).drop J).take 512 = conts xs nm k := by
          rw [← hc, s1, List.take_of_length_le (Nat.le_of_eq hgl), hJ]; rfl
        rw [← hct]
        exact o'
      · rw [if_neg hown] at s1
        have hl : look2 ((k / x.cs : Nat) : Int) x.F = none := by
          unfold Im.isOwn at hown
          simpa using hown
        rw [hl]
        simp (disch := omega) [c1, cellOf (i := 0) a.cells rfl, a.look]
        exact hX x.bk _ _ rfl ⟨rfl, by rw [← s1]; exact hc⟩ s2
    · rw [if_neg hk2] at s1
      have hz : conts xs nm k = z512 := by rw [← hc]; exact s1
      simp (disch := omega) [c2, e2]
      refine zero _ hz fun h' o' m' => ?_
      exact H h' o' m'
end Go.Proofs.YtoonjlhfgjnnmaaGreat
