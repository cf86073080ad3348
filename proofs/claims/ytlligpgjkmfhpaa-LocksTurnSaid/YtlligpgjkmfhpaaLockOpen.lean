/- Locks: arguments that are locks. -/
import Derived.Test.YtlligpgjkmfhpaaLock12
import Derived.Test.YtlligpgjkmfhpaaOpen
set_option linter.unusedSimpArgs false
set_option linter.unusedVariables false
namespace Go.Proofs.Ytlligpgjkmfhpaa
open Go.Vc Go Go.ChangeShapes Go.WideShapes Go.ChangeAt Go.RowKit Go.Deep

theorem lock_cells {H : Type} {enc : TypeId × Value → H} {w : World} {base : Nat} {sp : Nat → Bool} {held : Bool} {cs : List Value} (hl : cs.length = 4)
    (hL : ∀ (i : Nat) ty off s, [(3, 0, 1), (2, 1, 1), (2, 2, 1), (4, 3, 1)][i]? = some (ty, off, s) → Laid enc Try.prog w base sp held ty ((cs.drop off).take s)) :
    ∃ (id a l : Int) (al : Bool), cs = [.int .i64 id, .int .i64 a, .int .i64 l, .bool al] := by
  obtain ⟨c0, c1, c2, c3, rfl⟩ := len4 hl
  obtain ⟨n0, hn0, -⟩ := (hL 0 _ _ _ rfl).int (k := .i64) (by kernel_rfl)
  obtain rfl : c0 = .int .i64 n0 := by simpa using hn0
  obtain ⟨n1, hn1, -⟩ := (hL 1 _ _ _ rfl).int (k := .i64) (by kernel_rfl)
  obtain rfl : c1 = .int .i64 n1 := by simpa using hn1
  obtain ⟨n2, hn2, -⟩ := (hL 2 _ _ _ rfl).int (k := .i64) (by kernel_rfl)
  obtain rfl : c2 = .int .i64 n2 := by simpa using hn2
  obtain ⟨n3, hn3⟩ := (hL 3 _ _ _ rfl).bool (by kernel_rfl)
  obtain rfl : c3 = .bool n3 := by simpa using hn3
  exact ⟨n0, n1, n2, n3, rfl⟩
set_option maxRecDepth 100000 in
theorem open_lock {H : Type} {enc : TypeId × Value → H} {w : World} {base : Nat} {sp : Nat → Bool} {held : Bool} {v : Value} {r : Reach} {b0 : Nat} {ps : List MemPlace} {d : DataW H} (hval : Value.okWide Try.prog w r b0 29 v) (hd : DataW.Trod enc Try.prog w base sp held 29 v d ps) :
    ∃ (id a l : Int) (al : Bool), v = lockV id a l al := by
  obtain ⟨cs, rfl, hl, hL⟩ := Laid.topFlds (L := [(3, 0, 1), (2, 1, 1), (2, 2, 1), (4, 3, 1)]) (n := 4) (by kernel_rfl) (by kernel_rfl) hval hd
  obtain ⟨id, a, l, al, rfl⟩ := lock_cells hl hL
  exact ⟨id, a, l, al, rfl⟩
/-- A request as an argument tells it. -/
structure Lx where
  id : Int
  a : Int
  l : Int
  al : Bool
def Lx.cells (x : Lx) : List Value := [.int .i64 x.id, .int .i64 x.a, .int .i64 x.l, .bool x.al]
def Lxs (h : Heap) (v : Value) (xs : List Lx) : Prop := Slc 4 h v (fun us x => us = x.cells) xs
set_option maxRecDepth 100000 in
theorem open_locks {H : Type} {enc : TypeId × Value → H} {w : World} {base : Nat} {sp : Nat → Bool} {held : Bool} {v : Value} {r : Reach} {b0 : Nat} {ps : List MemPlace} {d : DataW H} (hval : Value.okWide Try.prog w r b0 22 v) (hd : DataW.Trod enc Try.prog w base sp held 22 v d ps) :
    ∃ xs : List Lx, Lxs w.heap v xs ∧ xs.length ≤ maxLen := by
  have hR : ∀ us, Laid enc Try.prog w base sp held 29 us → ∃ x : Lx, us = x.cells := fun us h => by
    obtain ⟨hl, hL⟩ := h.flds (L := [(3, 0, 1), (2, 1, 1), (2, 2, 1), (4, 3, 1)]) (n := 4) (by kernel_rfl) (by kernel_rfl)
    obtain ⟨id, a, l, al, rfl⟩ := lock_cells hl hL
    exact ⟨⟨id, a, l, al⟩, rfl⟩
  obtain ⟨v', xs, hv, hs, hlen⟩ := (Laid.top hval hd (by kernel_rfl)).slice (e := 29) (R := fun us (x : Lx) => us = x.cells) (by kernel_rfl) hR
  obtain rfl : v = v' := by simpa using hv
  exact ⟨xs, hs, hlen⟩
end Go.Proofs.Ytlligpgjkmfhpaa
