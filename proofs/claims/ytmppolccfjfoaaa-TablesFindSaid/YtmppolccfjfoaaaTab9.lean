/- Tables: rows; the first one of a name. -/
import Derived.Test.YtmppolccfjfoaaaTab8
set_option linter.unusedSimpArgs false
set_option linter.unusedVariables false
namespace Go.Proofs.Ytmppolccfjfoaaa
open Go.Vc
variable {K : Value → Heap → Prop} {h : Heap}

/-- A bitmap's row. -/
structure Rw where
  name : List UInt8
  gran : Int
  flags : Int
  place : Int
  len : Int
deriving DecidableEq
def Rw.cells (x : Rw) : List Value := [str x.name, .int .i64 x.gran, .int .i64 x.flags, .int .i64 x.place, .int .i64 x.len]
/-- A list of rows. -/
def Rws (h : Heap) (v : Value) (xs : List Rw) : Prop := Slc 5 h v (fun us x => us = x.cells) xs
theorem Rws.ext {h' : Heap} {v : Value} {xs : List Rw} (s : Rws h v xs) (e : Ext h h') : Rws h' v xs := by
  rcases s with s | ⟨a, c, h1, h2, h3⟩
  · exact .inl s
  · refine .inr ⟨a, c, h1, h2, fun i hi => ?_⟩
    obtain ⟨us, h4, h5, h6⟩ := h3 i hi
    exact ⟨us, h4, h5.ext e, h6⟩
theorem Rws.form {v : Value} {xs : List Rw} (s : Rws h v xs) : ∃ o c, v = .slice o xs.length c := Slc.form s
theorem Rws.cell {a : Addr} {n c : Nat} {xs : List Rw} (s : Rws h (.slice (some a) n c) xs) (i : Nat) (hi : i < xs.length) :
    hcell h (elt a (i * 5)) = some (str xs[i].name) ∧ hcell h (elt a (i * 5 + 1)) = some (.int .i64 xs[i].gran) ∧ hcell h (elt a (i * 5 + 2)) = some (.int .i64 xs[i].flags) ∧ hcell h (elt a (i * 5 + 3)) = some (.int .i64 xs[i].place) ∧ hcell h (elt a (i * 5 + 4)) = some (.int .i64 xs[i].len) := by
  rcases s with ⟨h1, -⟩ | ⟨a', c', h1, h2, h3⟩
  · cases h1
  · cases h1
    obtain ⟨us, -, h5, rfl⟩ := h3 i hi
    have := fun j hj => h5 j hj
    unfold Rw.cells at this
    have e0 := this 0 (by simp)
    have e1 := this 1 (by simp)
    have e2 := this 2 (by simp)
    have e3 := this 3 (by simp)
    have e4 := this 4 (by simp)
    rw [elt_elt] at e0 e1 e2 e3 e4
    exact ⟨e0, e1, e2, e3, e4⟩
theorem Rws.some {o : Option Addr} {n c : Nat} {xs : List Rw} (s : Rws h (.slice o n c) xs) (hx : 0 < xs.length) : ∃ a, o = some a ∧ n = xs.length ∧ xs.length ≤ c := by
  rcases s with ⟨h1, rfl⟩ | ⟨a', c', h1, h2, h3⟩
  · simp at hx
  · cases h1; exact ⟨_, rfl, rfl, h2⟩

/-- The first one of a name. -/
def IsFirst (N : List (List UInt8)) (nm : List UInt8) (i : Nat) (f : Bool) : Prop :=
  (f = true ∧ ∃ hi : i < N.length, N[i] = nm ∧ ∀ j (hj : j < N.length), j < i → N[j] ≠ nm) ∨ (f = false ∧ i = 0 ∧ ∀ j (hj : j < N.length), N[j] ≠ nm)
theorem IsFirst.uniq {N : List (List UInt8)} {nm : List UInt8} {i i' : Nat} {f f' : Bool} (a : IsFirst N nm i f) (b : IsFirst N nm i' f') : i = i' ∧ f = f' := by
  rcases a with ⟨rfl, hi, h1, h2⟩ | ⟨rfl, rfl, h1⟩ <;> rcases b with ⟨rfl, hi', h3, h4⟩ | ⟨rfl, rfl, h3⟩
  · rcases Nat.lt_trichotomy i i' with h | h | h
    · exact absurd h1 (h4 i hi h)
    · exact ⟨h, rfl⟩
    · exact absurd h3 (h2 i' hi' h)
  · exact absurd h1 (h3 i hi)
  · exact absurd h3 (h1 i' hi')
  · exact ⟨rfl, rfl⟩

theorem FindSnap_c {v : Value} {xs : List Sn} {nm : List UInt8} (hS : Sns h v xs) (hl : xs.length < 1000000) (H : ∀ h' i f, Ext h h' → IsFirst (xs.map Sn.name) nm i f → K (.tuple #[.int .i64 (i : Nat), .bool f]) h') : CallsH Try.prog 62 #[v, str nm] h K ⟨⟩ := by
  obtain ⟨o, c, rfl⟩ := hS.form
  refine n62_calls ?_
  unfold n62
  have e0 : Ext h (h.push (.cells #[str nm] 9)) := (by repeat' (first | (with_reducible exact Ext.refl _) | (with_reducible assumption) | (with_reducible refine push_ext ?_) | (with_reducible refine hset_ext ?_ ?_) | (with_reducible refine Ext.trans ?_ (by assumption)) | omega | (simp; done) | (simp; omega) | (refine Ext.size ?_) | (refine Nat.le_succ_of_le (Ext.size ?_))))
  simp (disch := omega)
  refine n89_calls ?_
  unfold n89
  simp (disch := omega)
  refine loopA1 (fun i : Nat => .int .i64 i) (fun i h' => Ext (h.push (.cells #[str nm] 9)) h' ∧ i ≤ xs.length ∧ ∀ j (hj : j < xs.length), j < i → xs[j].name ≠ nm) (fun i => xs.length - i) 0 rfl ⟨.refl _, by omega, fun j _ hj => by omega⟩ ?_
  rintro i h1 ⟨e1, hi, hno⟩
  have cn : Cel h1 h.size 0 (str nm) := Cel.ext (h := h.push (.cells #[str nm] 9)) ⟨by simp, by simp⟩ e1
  by_cases hin : i = xs.length
  · simp (disch := omega) [hin, Hp_max2]
    exact H _ 0 false (e0.trans e1) (.inr ⟨rfl, rfl, fun j hj => by rw [List.getElem_map]; exact hno j (by simpa using hj) (by simp at hj; omega)⟩)
  · have hil : i < xs.length := by omega
    obtain ⟨a, rfl, -, hc⟩ := hS.some (by omega)
    have hcs := (hS.ext (e0.trans e1)).cell i hil
    have hlt := cn.lt
    simp (disch := omega) [hcs.1, hcs.2.1, hcs.2.2.1, hcs.2.2.2]
    refine InvokeH_c1 (by kernel_rfl) ?_
    refine n90_calls ?_
    unfold n90
    simp (disch := omega) [cn.get]
    refine Split.mk (fun he => ?_) (fun he => ?_)
    · have hmx : ¬ (0 : Int) < i → (i : Int) = 0 := fun _ => by omega
      simp (disch := omega) [Hp_max2]
      have hm : (if 0 < i then (i : Int) else 0) = i := by split <;> omega
      rw [hm]
      exact H _ i true (Ext.trans (e0.trans e1) (by repeat' (first | (with_reducible exact Ext.refl _) | (with_reducible assumption) | (with_reducible refine push_ext ?_) | (with_reducible refine hset_ext ?_ ?_) | (with_reducible refine Ext.trans ?_ (by assumption)) | omega | (simp; done) | (simp; omega) | (refine Ext.size ?_) | (refine Nat.le_succ_of_le (Ext.size ?_))))) (.inl ⟨rfl, by simpa using hil, by rw [List.getElem_map]; exact he, fun j hj hji => by rw [List.getElem_map]; exact hno j (by simpa using hj) hji⟩)
    · simp (disch := omega)
      refine ⟨i + 1, by simp, ⟨e1.trans (by repeat' (first | (with_reducible exact Ext.refl _) | (with_reducible assumption) | (with_reducible refine push_ext ?_) | (with_reducible refine hset_ext ?_ ?_) | (with_reducible refine Ext.trans ?_ (by assumption)) | omega | (simp; done) | (simp; omega) | (refine Ext.size ?_) | (refine Nat.le_succ_of_le (Ext.size ?_)))), by omega, fun j hj hji => ?_⟩, by omega⟩
      by_cases e : j = i
      · subst e; exact he
      · exact hno j hj (by omega)
theorem FindRow_c {v : Value} {xs : List Rw} {nm : List UInt8} (hS : Rws h v xs) (hl : xs.length < 1000000) (H : ∀ h' i f, Ext h h' → IsFirst (xs.map Rw.name) nm i f → K (.tuple #[.int .i64 (i : Nat), .bool f]) h') : CallsH Try.prog 63 #[v, str nm] h K ⟨⟩ := by
  obtain ⟨o, c, rfl⟩ := hS.form
  refine n63_calls ?_
  unfold n63
  have e0 : Ext h (h.push (.cells #[str nm] 9)) := (by repeat' (first | (with_reducible exact Ext.refl _) | (with_reducible assumption) | (with_reducible refine push_ext ?_) | (with_reducible refine hset_ext ?_ ?_) | (with_reducible refine Ext.trans ?_ (by assumption)) | omega | (simp; done) | (simp; omega) | (refine Ext.size ?_) | (refine Nat.le_succ_of_le (Ext.size ?_))))
  simp (disch := omega)
  refine n91_calls ?_
  unfold n91
  simp (disch := omega)
  refine loopA1 (fun i : Nat => .int .i64 i) (fun i h' => Ext (h.push (.cells #[str nm] 9)) h' ∧ i ≤ xs.length ∧ ∀ j (hj : j < xs.length), j < i → xs[j].name ≠ nm) (fun i => xs.length - i) 0 rfl ⟨.refl _, by omega, fun j _ hj => by omega⟩ ?_
  rintro i h1 ⟨e1, hi, hno⟩
  have cn : Cel h1 h.size 0 (str nm) := Cel.ext (h := h.push (.cells #[str nm] 9)) ⟨by simp, by simp⟩ e1
  by_cases hin : i = xs.length
  · simp (disch := omega) [hin, Hp_max2]
    exact H _ 0 false (e0.trans e1) (.inr ⟨rfl, rfl, fun j hj => by rw [List.getElem_map]; exact hno j (by simpa using hj) (by simp at hj; omega)⟩)
  · have hil : i < xs.length := by omega
    obtain ⟨a, rfl, -, hc⟩ := hS.some (by omega)
    have hcs := (hS.ext (e0.trans e1)).cell i hil
    have hlt := cn.lt
    simp (disch := omega) [hcs.1, hcs.2.1, hcs.2.2.1, hcs.2.2.2.1, hcs.2.2.2.2]
    refine InvokeH_c1 (by kernel_rfl) ?_
    refine n92_calls ?_
    unfold n92
    simp (disch := omega) [cn.get]
    refine Split.mk (fun he => ?_) (fun he => ?_)
    · have hmx : ¬ (0 : Int) < i → (i : Int) = 0 := fun _ => by omega
      simp (disch := omega) [Hp_max2]
      have hm : (if 0 < i then (i : Int) else 0) = i := by split <;> omega
      rw [hm]
      exact H _ i true (Ext.trans (e0.trans e1) (by repeat' (first | (with_reducible exact Ext.refl _) | (with_reducible assumption) | (with_reducible refine push_ext ?_) | (with_reducible refine hset_ext ?_ ?_) | (with_reducible refine Ext.trans ?_ (by assumption)) | omega | (simp; done) | (simp; omega) | (refine Ext.size ?_) | (refine Nat.le_succ_of_le (Ext.size ?_))))) (.inl ⟨rfl, by simpa using hil, by rw [List.getElem_map]; exact he, fun j hj hji => by rw [List.getElem_map]; exact hno j (by simpa using hj) hji⟩)
    · simp (disch := omega)
      refine ⟨i + 1, by simp, ⟨e1.trans (by repeat' (first | (with_reducible exact Ext.refl _) | (with_reducible assumption) | (with_reducible refine push_ext ?_) | (with_reducible refine hset_ext ?_ ?_) | (with_reducible refine Ext.trans ?_ (by assumption)) | omega | (simp; done) | (simp; omega) | (refine Ext.size ?_) | (refine Nat.le_succ_of_le (Ext.size ?_)))), by omega, fun j hj hji => ?_⟩, by omega⟩
      by_cases e : j = i
      · subst e; exact he
      · exact hno j hj (by omega)
end Go.Proofs.Ytmppolccfjfoaaa
