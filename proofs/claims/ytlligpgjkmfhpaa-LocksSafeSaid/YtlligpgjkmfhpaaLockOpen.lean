/- Locks: arguments that are locks. -/
import Derived.Test.YtlligpgjkmfhpaaLock12
import Derived.Test.YtlligpgjkmfhpaaOpen
set_option linter.unusedSimpArgs false
set_option linter.unusedVariables false
namespace Go.Proofs.Ytlligpgjkmfhpaa
open Go.Vc Go Go.ChangeShapes Go.WideShapes Go.ChangeAt Go.RowKit Go.Deep

theorem lock_cells {H : Type} {enc : TypeId × Value → H} {w : World} {base : Nat} {sp : Nat → Bool} {held : Bool} {cs : List Value} (hl : cs.length = 4)
    (hL : ∀ (i : Nat) ty off s, [(3, 0, 1), (2, 1, 1), (2, 2, 1), (4, 3, 1)][i]? = some (ty, off, s) → Laid enc Try.prog w base sp held ty ((cs.drop off).take s)) :
    ∃ (id a l : Int) (al : Bool), cs = [.int .i64 id, .int .i64 a, .int .i64 l, .bool al] := by
  obtain ⟨c0, c1, c2, c3, rfl⟩ := len4 hl
  obtain ⟨n0, hn0, -⟩ := (hL 0 _ _ _ rfl).int (k := .i64) (by kernel_rfl)
  obtain rfl : c0 = .int .i64 n0 := by simpa using hn0
  obtain ⟨n1, hn1, -⟩ := (hL 1 _ _ _ rfl).int (k := .i64) (by kernel_rfl)
  obtain rfl : c1 = .int .i64 n1 := by simpa using hn1
  obtain ⟨n2, hn2, -⟩ := (hL 2 _ _ _ rfl).int (k := .i64) (by kernel_rfl)
  obtain rfl : c2 = .int .i64 n2 := by simpa using hn2
  obtain ⟨n3, hn3⟩ := (hL 3 _ _ _ rfl).bool (by kernel_rfl)
  obtain rfl : c3 = .bool n3 := by simpa using hn3
  exact ⟨n0, n1, n2, n3, rfl⟩
set_option maxRecDepth 100000 in
theorem open_lock {H : Type} {enc : TypeId × Value → H} {w : World} {base : Nat} {sp : Nat → Bool} {held : Bool} {v : Value} {r : Reach} {b0 : Nat} {ps : List MemPlace} {d : DataW H} (hval : Value.okWide Try.prog w r b0 29 v) (hd : DataW.Trod enc Try.prog w base sp held 29 v d ps) :
    ∃ (id a l : Int) (al : Bool), v = lockV id a l al := by
  obtain ⟨cs, rfl, hl, hL⟩ := Laid.topFlds (L := [(3, 0, 1), (2, 1, 1), (2, 2, 1), (4, 3, 1)]) (n := 4) (by kernel_rfl) (by kernel_rfl) hval hd
  obtain ⟨id, a, l, al, rfl⟩ := lock_cells hl hL
  exact ⟨id, a, l, al, rfl⟩
/-- A request as an argument tells it. -/
structure Lx where
  id : Int
  a : Int
  l : Int
  al : Bool
def Lx.cells (x : Lx) : List Value := [.int .i64 x.id, .int .i64 x.a, .int .i64 x.l, .bool x.al]
def Lxs (h : Heap) (v : Value) (xs : List Lx) : Prop := Slc 4 h v (fun us x => us = x.cells) xs
theorem Lxs.ext {h h' : Heap} {v : Value} {xs : List Lx} (s : Lxs h v xs) (e : Ext h h') : Lxs h' v xs := by
  rcases s with s | ⟨a, c, h1, h2, h3⟩
  · exact .inl s
  · refine .inr ⟨a, c, h1, h2, fun i hi => ?_⟩
    obtain ⟨us, h4, h5, h6⟩ := h3 i hi
    exact ⟨us, h4, h5.ext e, h6⟩
theorem Lxs.form {h : Heap} {v : Value} {xs : List Lx} (s : Lxs h v xs) : ∃ o c, v = .slice o xs.length c := Slc.form s
theorem Lxs.cell {h : Heap} {a : Addr} {n c : Nat} {xs : List Lx} (s : Lxs h (.slice (some a) n c) xs) (i : Nat) (hi : i < xs.length) :
    hcell h (elt a (i * 4)) = some (.int .i64 xs[i].id) ∧ hcell h (elt a (i * 4 + 1)) = some (.int .i64 xs[i].a) ∧ hcell h (elt a (i * 4 + 2)) = some (.int .i64 xs[i].l) ∧ hcell h (elt a (i * 4 + 3)) = some (.bool xs[i].al) := by
  rcases s with ⟨h1, -⟩ | ⟨a', c', h1, h2, h3⟩
  · cases h1
  · cases h1
    obtain ⟨us, -, h5, rfl⟩ := h3 i hi
    have := fun j hj => h5 j hj
    unfold Lx.cells at this
    have e0 := this 0 (by simp)
    have e1 := this 1 (by simp)
    have e2 := this 2 (by simp)
    have e3 := this 3 (by simp)
    rw [elt_elt] at e0 e1 e2 e3
    exact ⟨e0, e1, e2, e3⟩
theorem Lxs.some {h : Heap} {o : Option Addr} {n c : Nat} {xs : List Lx} (s : Lxs h (.slice o n c) xs) (hx : 0 < xs.length) : ∃ a, o = some a ∧ n = xs.length ∧ xs.length ≤ c := by
  rcases s with ⟨h1, rfl⟩ | ⟨a', c', h1, h2, h3⟩
  · simp at hx
  · cases h1; exact ⟨_, rfl, rfl, h2⟩
theorem obj_ne {h : Heap} {b i c : Nat} {o : Obj} {v : Value} (hb : h[b]? = some o) (hne : c ≠ b) : (hset h ⟨c, i, none⟩ v)[b]? = some o := ((Mod.set h ⟨c, i, none⟩ v).block b (get_some_lt hb) (fun e => hne e.symm)).trans hb
set_option maxRecDepth 100000 in
theorem open_locks {H : Type} {enc : TypeId × Value → H} {w : World} {base : Nat} {sp : Nat → Bool} {held : Bool} {v : Value} {r : Reach} {b0 : Nat} {ps : List MemPlace} {d : DataW H} (hval : Value.okWide Try.prog w r b0 22 v) (hd : DataW.Trod enc Try.prog w base sp held 22 v d ps) :
    ∃ xs : List Lx, Lxs w.heap v xs ∧ xs.length ≤ maxLen := by
  have hR : ∀ us, Laid enc Try.prog w base sp held 29 us → ∃ x : Lx, us = x.cells := fun us h => by
    obtain ⟨hl, hL⟩ := h.flds (L := [(3, 0, 1), (2, 1, 1), (2, 2, 1), (4, 3, 1)]) (n := 4) (by kernel_rfl) (by kernel_rfl)
    obtain ⟨id, a, l, al, rfl⟩ := lock_cells hl hL
    exact ⟨⟨id, a, l, al⟩, rfl⟩
  obtain ⟨v', xs, hv, hs, hlen⟩ := (Laid.top hval hd (by kernel_rfl)).slice (e := 29) (R := fun us (x : Lx) => us = x.cells) (by kernel_rfl) hR
  obtain rfl : v = v' := by simpa using hv
  exact ⟨xs, hs, hlen⟩
end Go.Proofs.Ytlligpgjkmfhpaa
