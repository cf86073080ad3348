/-
  No cell of these rows narrows 'for every input' (looked for: loops, veiled, ifaces, maps, wideKeys, modest, calm, conditions, laid).
  DERIVED. THE GIVEN ROWS OF THIS SEAT. 5 by the template 'for every input the law returns true; each argument reads behind the call as it read before'; 0 by the template 'total and deterministic' (their statements: YtgnmjcljljfldaaTotals.lean).
  GIVEN WITH THE SEED: the statements are not yours to turn. If you find one false, say at which input.
  Laid BY PROGRAM, IN A SANDBOX (cutbox-rows.mjs): the forced cells as the released guide's own fill.sh prints them over the translation 541c4e0e7515b654… (all of the seat's roots in one cut). By AI agents, Wed Nov 11 2026. No macro, syntax, notation, axiom, sorry.
-/
import Derived.Test.YtgnmjcljljfldaaChecked
import GoSem.Claim
import GoSem.ClaimJoined
import GoSem.ClaimMapViews
import Derived.JoinedTies
import Derived.KernelRfl
namespace Go.Proofs.Ytgnmjcljljfldaa
/- THE CELL 'sum', in the pinned program and in every row, IS THE sha256 OF THE DUMP (.gsa) THAT YtgnmjcljljfldaaProg.lean LOADS. Nothing in Lean hashes anything: it is a label: what it is worth is what the hold of that sum in a sandbox is worth. -/
noncomputable def Try.pinned : Pinned := { name := "ytgnmjcljljfldaa", sum := "541c4e0e7515b65436c5ffbdb2643873a8a89c2f86bc4c148ed8f1d6d2a93f8f", checked := Try.checked }
namespace Rows
def none {H : Type} : Left H := { results := [], args := [] }

/-- 'palimpsestlaw11.TablesRows': WHATEVER THE INPUT: true; the input reads as it did. -/
def tablesRowsSpec : ChangeSpec := { name := "tablesRows", fn := fun _ => fun
  | [d1, d2] => { results := [.lit (.bool true)], args := [d1, d2] }
  | _ => none }
def tablesRowsRow : OpenClaim := { program := "ytgnmjcljljfldaa", sum := "541c4e0e7515b65436c5ffbdb2643873a8a89c2f86bc4c148ed8f1d6d2a93f8f", func := "palimpsest/palimpsestlaw11.TablesRows", spec := "tablesRows", inPlace := ["internal/bytealg.IndexByteString", "internal/bytealg.IndexString"], unfollowed := true, recurses := true, named := ["internal/bytealg.MaxLen"], apart := false }
def TablesRowsSaid : Prop := tablesRowsRow.holds Try.pinned (OpenSpec.ofChange tablesRowsSpec)

/-- ITS FALSE NEIGHBOUR: 'it returns false'. Refute it at one input. -/
def tablesRowsWrong : ChangeSpec := { name := "tablesRows", fn := fun _ => fun
  | [d1, d2] => { results := [.lit (.bool false)], args := [d1, d2] }
  | _ => none }
def TablesRowsWrongFalsely : Prop := tablesRowsRow.holds Try.pinned (OpenSpec.ofChange tablesRowsWrong)

/-- 'palimpsestlaw11.TablesRead': WHATEVER THE INPUT: true; the input reads as it did. -/
def tablesReadSpec : ChangeSpec := { name := "tablesRead", fn := fun _ => fun
  | [d1, d2, d3] => { results := [.lit (.bool true)], args := [d1, d2, d3] }
  | _ => none }
def tablesReadRow : OpenClaim := { program := "ytgnmjcljljfldaa", sum := "541c4e0e7515b65436c5ffbdb2643873a8a89c2f86bc4c148ed8f1d6d2a93f8f", func := "palimpsest/palimpsestlaw11.TablesRead", spec := "tablesRead", inPlace := ["internal/bytealg.IndexByteString", "internal/bytealg.IndexString"], unfollowed := true, recurses := true, named := ["internal/bytealg.MaxLen"], apart := false }
def TablesReadSaid : Prop := tablesReadRow.holds Try.pinned (OpenSpec.ofChange tablesReadSpec)

/-- ITS FALSE NEIGHBOUR: 'it returns false'. Refute it at one input. -/
def tablesReadWrong : ChangeSpec := { name := "tablesRead", fn := fun _ => fun
  | [d1, d2, d3] => { results := [.lit (.bool false)], args := [d1, d2, d3] }
  | _ => none }
def TablesReadWrongFalsely : Prop := tablesReadRow.holds Try.pinned (OpenSpec.ofChange tablesReadWrong)

/-- 'palimpsestlaw08.HeadRead': WHATEVER THE INPUT: true; the input reads as it did. -/
def headReadSpec : ChangeSpec := { name := "headRead", fn := fun _ => fun
  | [d] => { results := [.lit (.bool true)], args := [d] }
  | _ => none }
def headReadRow : OpenClaim := { program := "ytgnmjcljljfldaa", sum := "541c4e0e7515b65436c5ffbdb2643873a8a89c2f86bc4c148ed8f1d6d2a93f8f", func := "palimpsest/palimpsestlaw08.HeadRead", spec := "headRead", inPlace := ["internal/bytealg.IndexByteString", "internal/bytealg.IndexString"], unfollowed := true, recurses := true, named := ["internal/bytealg.MaxLen"], apart := false }
def HeadReadSaid : Prop := headReadRow.holds Try.pinned (OpenSpec.ofChange headReadSpec)

/-- ITS FALSE NEIGHBOUR: 'it returns false'. Refute it at one input. -/
def headReadWrong : ChangeSpec := { name := "headRead", fn := fun _ => fun
  | [d] => { results := [.lit (.bool false)], args := [d] }
  | _ => none }
def HeadReadWrongFalsely : Prop := headReadRow.holds Try.pinned (OpenSpec.ofChange headReadWrong)

/-- 'palimpsestlaw08.HeadApart': WHATEVER THE INPUT: true; the input reads as it did. -/
def headApartSpec : ChangeSpec := { name := "headApart", fn := fun _ => fun
  | [d1, d2] => { results := [.lit (.bool true)], args := [d1, d2] }
  | _ => none }
def headApartRow : OpenClaim := { program := "ytgnmjcljljfldaa", sum := "541c4e0e7515b65436c5ffbdb2643873a8a89c2f86bc4c148ed8f1d6d2a93f8f", func := "palimpsest/palimpsestlaw08.HeadApart", spec := "headApart", inPlace := ["internal/bytealg.IndexByteString", "internal/bytealg.IndexString"], unfollowed := true, recurses := true, named := ["internal/bytealg.MaxLen"], apart := false }
def HeadApartSaid : Prop := headApartRow.holds Try.pinned (OpenSpec.ofChange headApartSpec)

/-- ITS FALSE NEIGHBOUR: 'it returns false'. Refute it at one input. -/
def headApartWrong : ChangeSpec := { name := "headApart", fn := fun _ => fun
  | [d1, d2] => { results := [.lit (.bool false)], args := [d1, d2] }
  | _ => none }
def HeadApartWrongFalsely : Prop := headApartRow.holds Try.pinned (OpenSpec.ofChange headApartWrong)

/-- 'palimpsestlaw08.HeadBytes': WHATEVER THE INPUT: true; the input reads as it did. -/
def headBytesSpec : ChangeSpec := { name := "headBytes", fn := fun _ => fun
  | [d] => { results := [.lit (.bool true)], args := [d] }
  | _ => none }
def headBytesRow : OpenClaim := { program := "ytgnmjcljljfldaa", sum := "541c4e0e7515b65436c5ffbdb2643873a8a89c2f86bc4c148ed8f1d6d2a93f8f", func := "palimpsest/palimpsestlaw08.HeadBytes", spec := "headBytes", inPlace := ["internal/bytealg.IndexByteString", "internal/bytealg.IndexString"], unfollowed := true, recurses := true, named := ["internal/bytealg.MaxLen"], apart := false }
def HeadBytesSaid : Prop := headBytesRow.holds Try.pinned (OpenSpec.ofChange headBytesSpec)

/-- ITS FALSE NEIGHBOUR: 'it returns false'. Refute it at one input. -/
def headBytesWrong : ChangeSpec := { name := "headBytes", fn := fun _ => fun
  | [d] => { results := [.lit (.bool false)], args := [d] }
  | _ => none }
def HeadBytesWrongFalsely : Prop := headBytesRow.holds Try.pinned (OpenSpec.ofChange headBytesWrong)

/- THE SECOND FORM. 'bulk': how many values and letters a reading holds, each counted each time it is reached (what is shared counts as often as it is met; a slice's spare places count too). A statement '..UptoSaid' is the law's where the arguments, and the package variables that the reading takes, are together of bulk at most 1048576: NARROWER than '..Said'. Prove '..Said' where nothing that the law and all that it calls make is longer than what came in: it says more and counts as full. Else prove '..UptoSaid'. A law counts once. -/
mutual
def uptoBulk {H : Type} : DataW H → Nat
  | .lit (.string bytes) => bytes.length + 1
  | .lit _ => 1
  | .nil => 1
  | .ptr d => uptoBulk d + 1
  | .slice elems spare => uptoBulkAll elems + uptoBulkAll spare + 1
  | .agg parts => uptoBulkAll parts + 1
  | .iface _ d => uptoBulk d + 1
  | .map entries => uptoBulkEntries entries + 1
  | .held _ => 1
def uptoBulkAll {H : Type} : List (DataW H) → Nat
  | [] => 0
  | d :: r => uptoBulk d + uptoBulkAll r
def uptoBulkEntries {H : Type} : List (Lit × DataW H) → Nat
  | [] => 0
  | x :: r => uptoBulkEntry x + uptoBulkEntries r
def uptoBulkEntry {H : Type} : Lit × DataW H → Nat
  | (.string bytes, d) => bytes.length + uptoBulk d + 1
  | (_, d) => uptoBulk d + 1
 end
def uptoSmall : (H : Type) → List (DataW H) → Bool := fun _ ds => decide (uptoBulkAll ds ≤ 1048576)
def OpenSpec.upto (s : _root_.Go.ChangeSpec) : _root_.Go.OpenSpec := { _root_.Go.OpenSpec.ofChange s with cond := some uptoSmall }

/-- 'palimpsestlaw11.TablesRows', WHERE WHAT IT READS IS OF BULK AT MOST 1048576: true; the input reads as it did. -/
def tablesRowsUptoRow : OpenClaim := { program := "ytgnmjcljljfldaa", sum := "541c4e0e7515b65436c5ffbdb2643873a8a89c2f86bc4c148ed8f1d6d2a93f8f", func := "palimpsest/palimpsestlaw11.TablesRows", spec := "tablesRows", inPlace := ["internal/bytealg.IndexByteString", "internal/bytealg.IndexString"], unfollowed := true, recurses := true, named := ["internal/bytealg.MaxLen"], apart := false, narrowed := true }
def TablesRowsUptoSaid : Prop := tablesRowsUptoRow.holds Try.pinned (OpenSpec.upto tablesRowsSpec)

/-- 'palimpsestlaw11.TablesRead', WHERE WHAT IT READS IS OF BULK AT MOST 1048576: true; the input reads as it did. -/
def tablesReadUptoRow : OpenClaim := { program := "ytgnmjcljljfldaa", sum := "541c4e0e7515b65436c5ffbdb2643873a8a89c2f86bc4c148ed8f1d6d2a93f8f", func := "palimpsest/palimpsestlaw11.TablesRead", spec := "tablesRead", inPlace := ["internal/bytealg.IndexByteString", "internal/bytealg.IndexString"], unfollowed := true, recurses := true, named := ["internal/bytealg.MaxLen"], apart := false, narrowed := true }
def TablesReadUptoSaid : Prop := tablesReadUptoRow.holds Try.pinned (OpenSpec.upto tablesReadSpec)

/-- 'palimpsestlaw08.HeadRead', WHERE WHAT IT READS IS OF BULK AT MOST 1048576: true; the input reads as it did. -/
def headReadUptoRow : OpenClaim := { program := "ytgnmjcljljfldaa", sum := "541c4e0e7515b65436c5ffbdb2643873a8a89c2f86bc4c148ed8f1d6d2a93f8f", func := "palimpsest/palimpsestlaw08.HeadRead", spec := "headRead", inPlace := ["internal/bytealg.IndexByteString", "internal/bytealg.IndexString"], unfollowed := true, recurses := true, named := ["internal/bytealg.MaxLen"], apart := false, narrowed := true }
def HeadReadUptoSaid : Prop := headReadUptoRow.holds Try.pinned (OpenSpec.upto headReadSpec)

/-- 'palimpsestlaw08.HeadApart', WHERE WHAT IT READS IS OF BULK AT MOST 1048576: true; the input reads as it did. -/
def headApartUptoRow : OpenClaim := { program := "ytgnmjcljljfldaa", sum := "541c4e0e7515b65436c5ffbdb2643873a8a89c2f86bc4c148ed8f1d6d2a93f8f", func := "palimpsest/palimpsestlaw08.HeadApart", spec := "headApart", inPlace := ["internal/bytealg.IndexByteString", "internal/bytealg.IndexString"], unfollowed := true, recurses := true, named := ["internal/bytealg.MaxLen"], apart := false, narrowed := true }
def HeadApartUptoSaid : Prop := headApartUptoRow.holds Try.pinned (OpenSpec.upto headApartSpec)

/-- 'palimpsestlaw08.HeadBytes', WHERE WHAT IT READS IS OF BULK AT MOST 1048576: true; the input reads as it did. -/
def headBytesUptoRow : OpenClaim := { program := "ytgnmjcljljfldaa", sum := "541c4e0e7515b65436c5ffbdb2643873a8a89c2f86bc4c148ed8f1d6d2a93f8f", func := "palimpsest/palimpsestlaw08.HeadBytes", spec := "headBytes", inPlace := ["internal/bytealg.IndexByteString", "internal/bytealg.IndexString"], unfollowed := true, recurses := true, named := ["internal/bytealg.MaxLen"], apart := false, narrowed := true }
def HeadBytesUptoSaid : Prop := headBytesUptoRow.holds Try.pinned (OpenSpec.upto headBytesSpec)

end Rows
end Go.Proofs.Ytgnmjcljljfldaa
