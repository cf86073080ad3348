/- Tables: bitmaps' rows. -/
import Derived.Test.YtgnmjcljljfldaaTab1
import Derived.Test.YtgnmjcljljfldaaOpen
set_option linter.unusedSimpArgs false
set_option linter.unusedVariables false
namespace Go.Proofs.Ytgnmjcljljfldaa
open Go.Vc
variable {K : Value → Heap → Prop} {h : Heap}

/-- A bitmap's row. -/
structure Rw where
  name : List UInt8
  gran : Int
  flags : Int
  place : Int
  len : Int
deriving DecidableEq
def Rw.cells (x : Rw) : List Value := [str x.name, .int .i64 x.gran, .int .i64 x.flags, .int .i64 x.place, .int .i64 x.len]
/-- A list of rows. -/
def Rws (h : Heap) (v : Value) (xs : List Rw) : Prop := Slc 5 h v (fun us x => us = x.cells) xs
theorem Rws.ext {h' : Heap} {v : Value} {xs : List Rw} (s : Rws h v xs) (e : Ext h h') : Rws h' v xs := by
  rcases s with s | ⟨a, c, h1, h2, h3⟩
  · exact .inl s
  · refine .inr ⟨a, c, h1, h2, fun i hi => ?_⟩
    obtain ⟨us, h4, h5, h6⟩ := h3 i hi
    exact ⟨us, h4, h5.ext e, h6⟩
theorem Rws.form {v : Value} {xs : List Rw} (s : Rws h v xs) : ∃ o c, v = .slice o xs.length c := Slc.form s
theorem Rws.cell {a : Addr} {n c : Nat} {xs : List Rw} (s : Rws h (.slice (some a) n c) xs) (i : Nat) (hi : i < xs.length) :
    hcell h (elt a (i * 5)) = some (str xs[i].name) ∧ hcell h (elt a (i * 5 + 1)) = some (.int .i64 xs[i].gran) ∧ hcell h (elt a (i * 5 + 2)) = some (.int .i64 xs[i].flags) ∧ hcell h (elt a (i * 5 + 3)) = some (.int .i64 xs[i].place) ∧ hcell h (elt a (i * 5 + 4)) = some (.int .i64 xs[i].len) := by
  rcases s with ⟨h1, -⟩ | ⟨a', c', h1, h2, h3⟩
  · cases h1
  · cases h1
    obtain ⟨us, -, h5, rfl⟩ := h3 i hi
    have := fun j hj => h5 j hj
    unfold Rw.cells at this
    have e0 := this 0 (by simp)
    have e1 := this 1 (by simp)
    have e2 := this 2 (by simp)
    have e3 := this 3 (by simp)
    have e4 := this 4 (by simp)
    rw [elt_elt] at e0 e1 e2 e3 e4
    exact ⟨e0, e1, e2, e3, e4⟩
theorem Rws.some {o : Option Addr} {n c : Nat} {xs : List Rw} (s : Rws h (.slice o n c) xs) (hx : 0 < xs.length) : ∃ a, o = some a ∧ n = xs.length ∧ xs.length ≤ c := by
  rcases s with ⟨h1, rfl⟩ | ⟨a', c', h1, h2, h3⟩
  · simp at hx
  · cases h1; exact ⟨_, rfl, rfl, h2⟩

end Go.Proofs.Ytgnmjcljljfldaa
