/- Heads: an argument that is a head. -/
import Derived.Test.YtgnmjcljljfldaaHead8
import Derived.Test.YtgnmjcljljfldaaOpen
set_option linter.unusedSimpArgs false
set_option linter.unusedVariables false
namespace Go.Proofs.Ytgnmjcljljfldaa
open Go.Vc Go Go.ChangeShapes Go.WideShapes Go.ChangeAt Go.RowKit Go.Deep

theorem len15 {α : Type} {l : List α} (h : l.length = 15) : ∃ c0 c1 c2 c3 c4 c5 c6 c7 c8 c9 c10 c11 c12 c13 c14, l = [c0, c1, c2, c3, c4, c5, c6, c7, c8, c9, c10, c11, c12, c13, c14] := by
  match l, h with
  | [c0, c1, c2, c3, c4, c5, c6, c7, c8, c9, c10, c11, c12, c13, c14], _ => exact ⟨c0, c1, c2, c3, c4, c5, c6, c7, c8, c9, c10, c11, c12, c13, c14, rfl⟩
set_option maxRecDepth 100000 in
theorem open_head {H : Type} {enc : TypeId × Value → H} {w : World} {base : Nat} {sp : Nat → Bool} {held : Bool} {v : Value} {r : Reach} {b0 : Nat} {ps : List MemPlace} {d : DataW H} (hval : Value.okWide Try.prog w r b0 47 v) (hd : DataW.Trod enc Try.prog w base sp held 47 v d ps) :
    ∃ x : Hd, v = x.val ∧ x.back.length < 9223372036854775808 := by
  obtain ⟨cs, rfl, hl, hL⟩ := Laid.topFlds (L := [(3, 0, 1), (45, 1, 1), (2, 2, 1), (2, 3, 1), (3, 4, 1), (3, 5, 1), (2, 6, 1), (3, 7, 1), (3, 8, 1), (2, 9, 1), (3, 10, 1), (3, 11, 1), (2, 12, 1), (3, 13, 1), (9, 14, 1)]) (n := 15) (by kernel_rfl) (by kernel_rfl) hval hd
  obtain ⟨c0, c1, c2, c3, c4, c5, c6, c7, c8, c9, c10, c11, c12, c13, c14, rfl⟩ := len15 hl
  obtain ⟨n0, hn0, -⟩ := (hL 0 _ _ _ rfl).int (k := .i64) (by kernel_rfl)
  obtain rfl : c0 = .int .i64 n0 := by simpa using hn0
  obtain ⟨fl0, hfl, hfl0, -⟩ := (hL 1 _ _ _ rfl).int (k := .u64) (by kernel_rfl)
  simp [IntKind.min, IntKind.max, IntKind.signed, IntKind.bits] at hfl0
  obtain ⟨fl, rfl⟩ := Int.eq_ofNat_of_zero_le hfl0
  obtain rfl : c1 = .int .u64 fl := by simpa using hfl
  obtain ⟨n2, hn2, -⟩ := (hL 2 _ _ _ rfl).int (k := .i64) (by kernel_rfl)
  obtain rfl : c2 = .int .i64 n2 := by simpa using hn2
  obtain ⟨n3, hn3, -⟩ := (hL 3 _ _ _ rfl).int (k := .i64) (by kernel_rfl)
  obtain rfl : c3 = .int .i64 n3 := by simpa using hn3
  obtain ⟨n4, hn4, -⟩ := (hL 4 _ _ _ rfl).int (k := .i64) (by kernel_rfl)
  obtain rfl : c4 = .int .i64 n4 := by simpa using hn4
  obtain ⟨n5, hn5, -⟩ := (hL 5 _ _ _ rfl).int (k := .i64) (by kernel_rfl)
  obtain rfl : c5 = .int .i64 n5 := by simpa using hn5
  obtain ⟨n6, hn6, -⟩ := (hL 6 _ _ _ rfl).int (k := .i64) (by kernel_rfl)
  obtain rfl : c6 = .int .i64 n6 := by simpa using hn6
  obtain ⟨n7, hn7, -⟩ := (hL 7 _ _ _ rfl).int (k := .i64) (by kernel_rfl)
  obtain rfl : c7 = .int .i64 n7 := by simpa using hn7
  obtain ⟨n8, hn8, -⟩ := (hL 8 _ _ _ rfl).int (k := .i64) (by kernel_rfl)
  obtain rfl : c8 = .int .i64 n8 := by simpa using hn8
  obtain ⟨n9, hn9, -⟩ := (hL 9 _ _ _ rfl).int (k := .i64) (by kernel_rfl)
  obtain rfl : c9 = .int .i64 n9 := by simpa using hn9
  obtain ⟨n10, hn10, -⟩ := (hL 10 _ _ _ rfl).int (k := .i64) (by kernel_rfl)
  obtain rfl : c10 = .int .i64 n10 := by simpa using hn10
  obtain ⟨n11, hn11, -⟩ := (hL 11 _ _ _ rfl).int (k := .i64) (by kernel_rfl)
  obtain rfl : c11 = .int .i64 n11 := by simpa using hn11
  obtain ⟨n12, hn12, -⟩ := (hL 12 _ _ _ rfl).int (k := .i64) (by kernel_rfl)
  obtain rfl : c12 = .int .i64 n12 := by simpa using hn12
  obtain ⟨n13, hn13, -⟩ := (hL 13 _ _ _ rfl).int (k := .i64) (by kernel_rfl)
  obtain rfl : c13 = .int .i64 n13 := by simpa using hn13
  obtain ⟨bk, hbk, hbl⟩ := (hL 14 _ _ _ rfl).str (by kernel_rfl)
  obtain rfl : c14 = str bk := by simpa using hbk
  exact ⟨⟨n0, fl, n2, n3, n4, n5, n6, n7, n8, n9, n10, n11, n12, n13, bk⟩, rfl, Nat.lt_of_le_of_lt hbl (by decide)⟩
end Go.Proofs.Ytgnmjcljljfldaa
