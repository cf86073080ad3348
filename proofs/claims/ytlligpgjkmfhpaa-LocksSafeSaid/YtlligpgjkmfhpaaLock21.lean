/- Locks: a list of numbers as an argument. -/
import Derived.Test.YtlligpgjkmfhpaaLock20
set_option linter.unusedSimpArgs false
set_option linter.unusedVariables false
namespace Go.Proofs.Ytlligpgjkmfhpaa
open Go.Vc Go Go.ChangeShapes Go.WideShapes Go.ChangeAt Go.RowKit Go.Deep

def IntS (h : Heap) (v : Value) (xs : List Int) : Prop := Slc 1 h v (fun us x => us = [.int .i64 x]) xs
theorem IntS.ext {h h' : Heap} {v : Value} {xs : List Int} (s : IntS h v xs) (e : Ext h h') : IntS h' v xs := by
  rcases s with s | ⟨a, c, h1, h2, h3⟩
  · exact .inl s
  · refine .inr ⟨a, c, h1, h2, fun i hi => ?_⟩
    obtain ⟨us, h4, h5, h6⟩ := h3 i hi
    exact ⟨us, h4, h5.ext e, h6⟩
theorem IntS.form {h : Heap} {v : Value} {xs : List Int} (s : IntS h v xs) : ∃ o c, v = .slice o xs.length c := Slc.form s
theorem IntS.cell {h : Heap} {o : Option Addr} {n c : Nat} {xs : List Int} (s : IntS h (.slice o n c) xs) (i : Nat) (hi : i < xs.length) :
    ∃ a, o = some a ∧ hcell h (elt a i) = some (.int .i64 xs[i]) := by
  rcases s with ⟨h1, rfl⟩ | ⟨a', c', h1, h2, h3⟩
  · cases hi
  · cases h1
    obtain ⟨us, -, h5, rfl⟩ := h3 i hi
    have := h5 0 (by simp)
    rw [elt_elt] at this
    exact ⟨a', rfl, by simpa using this⟩
set_option maxRecDepth 100000 in
theorem open_ints {H : Type} {enc : TypeId × Value → H} {w : World} {base : Nat} {sp : Nat → Bool} {held : Bool} {v : Value} {r : Reach} {b0 : Nat} {ps : List MemPlace} {d : DataW H} (hval : Value.okWide Try.prog w r b0 23 v) (hd : DataW.Trod enc Try.prog w base sp held 23 v d ps) :
    ∃ xs : List Int, IntS w.heap v xs ∧ xs.length ≤ maxLen := by
  have hR : ∀ us, Laid enc Try.prog w base sp held 3 us → ∃ x : Int, us = [.int .i64 x] := fun us h => let ⟨n, e, _⟩ := h.int (k := .i64) (by kernel_rfl); ⟨n, e⟩
  obtain ⟨v', xs, hv, hs, hlen⟩ := (Laid.top hval hd (by kernel_rfl)).slice (e := 3) (R := fun us (x : Int) => us = [.int .i64 x]) (by kernel_rfl) hR
  obtain rfl : v = v' := by simpa using hv
  exact ⟨xs, hs, hlen⟩
end Go.Proofs.Ytlligpgjkmfhpaa
