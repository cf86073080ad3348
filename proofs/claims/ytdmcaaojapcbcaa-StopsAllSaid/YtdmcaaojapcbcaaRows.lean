/-
  No cell of these rows narrows 'for every input' (looked for: loops, veiled, ifaces, maps, wideKeys, modest, calm, conditions, laid).
  DERIVED. THE GIVEN ROWS OF THIS SEAT. 6 by the template 'for every input the law returns true; each argument reads behind the call as it read before'; 0 by the template 'total and deterministic' (their statements: YtdmcaaojapcbcaaTotals.lean).
  GIVEN WITH THE SEED: the statements are not yours to turn. If you find one false, say at which input.
  Laid BY PROGRAM, IN A SANDBOX (cutbox-rows.mjs): the forced cells as the released guide's own fill.sh prints them over the translation f67d8b0c9690cf08… (all of the seat's roots in one cut). By AI agents, Wed Nov 11 2026. No macro, syntax, notation, axiom, sorry.
-/
import Derived.Test.YtdmcaaojapcbcaaChecked
import GoSem.Claim
import GoSem.ClaimJoined
import GoSem.ClaimMapViews
import Derived.JoinedTies
import Derived.KernelRfl
namespace Go.Proofs.Ytdmcaaojapcbcaa
/- THE CELL 'sum', in the pinned program and in every row, IS THE sha256 OF THE DUMP (.gsa) THAT YtdmcaaojapcbcaaProg.lean LOADS. Nothing in Lean hashes anything: it is a label: what it is worth is what the hold of that sum in a sandbox is worth. -/
noncomputable def Try.pinned : Pinned := { name := "ytdmcaaojapcbcaa", sum := "f67d8b0c9690cf08e5be929d0b23191172199fae9e0c32e0204edfa2b70ffce4", checked := Try.checked }
namespace Rows
def none {H : Type} : Left H := { results := [], args := [] }

/-- 'palimpsestlaw07.StopsNumbers': WHATEVER THE INPUT: true; the input reads as it did. -/
def stopsNumbersSpec : ChangeSpec := { name := "stopsNumbers", fn := fun _ => fun
  | [d1, d2, d3] => { results := [.lit (.bool true)], args := [d1, d2, d3] }
  | _ => none }
def stopsNumbersRow : OpenClaim := { program := "ytdmcaaojapcbcaa", sum := "f67d8b0c9690cf08e5be929d0b23191172199fae9e0c32e0204edfa2b70ffce4", func := "palimpsest/palimpsestlaw07.StopsNumbers", spec := "stopsNumbers", inPlace := ["internal/bytealg.IndexByte"], unfollowed := true, recurses := true, apart := false }
def StopsNumbersSaid : Prop := stopsNumbersRow.holds Try.pinned (OpenSpec.ofChange stopsNumbersSpec)

/-- ITS FALSE NEIGHBOUR: 'it returns false'. Refute it at one input. -/
def stopsNumbersWrong : ChangeSpec := { name := "stopsNumbers", fn := fun _ => fun
  | [d1, d2, d3] => { results := [.lit (.bool false)], args := [d1, d2, d3] }
  | _ => none }
def StopsNumbersWrongFalsely : Prop := stopsNumbersRow.holds Try.pinned (OpenSpec.ofChange stopsNumbersWrong)

/-- 'palimpsestlaw06.StoreCrash': WHATEVER THE INPUT: true; the input reads as it did. -/
def storeCrashSpec : ChangeSpec := { name := "storeCrash", fn := fun _ => fun
  | [d1, d2, d3] => { results := [.lit (.bool true)], args := [d1, d2, d3] }
  | _ => none }
def storeCrashRow : OpenClaim := { program := "ytdmcaaojapcbcaa", sum := "f67d8b0c9690cf08e5be929d0b23191172199fae9e0c32e0204edfa2b70ffce4", func := "palimpsest/palimpsestlaw06.StoreCrash", spec := "storeCrash", inPlace := ["internal/bytealg.IndexByte"], unfollowed := true, recurses := true, apart := false }
def StoreCrashSaid : Prop := storeCrashRow.holds Try.pinned (OpenSpec.ofChange storeCrashSpec)

/-- ITS FALSE NEIGHBOUR: 'it returns false'. Refute it at one input. -/
def storeCrashWrong : ChangeSpec := { name := "storeCrash", fn := fun _ => fun
  | [d1, d2, d3] => { results := [.lit (.bool false)], args := [d1, d2, d3] }
  | _ => none }
def StoreCrashWrongFalsely : Prop := storeCrashRow.holds Try.pinned (OpenSpec.ofChange storeCrashWrong)

/-- 'palimpsestlaw06.StoreFlushed': WHATEVER THE INPUT: true; the input reads as it did. -/
def storeFlushedSpec : ChangeSpec := { name := "storeFlushed", fn := fun _ => fun
  | [d1, d2, d3] => { results := [.lit (.bool true)], args := [d1, d2, d3] }
  | _ => none }
def storeFlushedRow : OpenClaim := { program := "ytdmcaaojapcbcaa", sum := "f67d8b0c9690cf08e5be929d0b23191172199fae9e0c32e0204edfa2b70ffce4", func := "palimpsest/palimpsestlaw06.StoreFlushed", spec := "storeFlushed", inPlace := ["internal/bytealg.IndexByte"], unfollowed := true, recurses := true, apart := false }
def StoreFlushedSaid : Prop := storeFlushedRow.holds Try.pinned (OpenSpec.ofChange storeFlushedSpec)

/-- ITS FALSE NEIGHBOUR: 'it returns false'. Refute it at one input. -/
def storeFlushedWrong : ChangeSpec := { name := "storeFlushed", fn := fun _ => fun
  | [d1, d2, d3] => { results := [.lit (.bool false)], args := [d1, d2, d3] }
  | _ => none }
def StoreFlushedWrongFalsely : Prop := storeFlushedRow.holds Try.pinned (OpenSpec.ofChange storeFlushedWrong)

/-- 'palimpsestlaw06.StoreNil': WHATEVER THE INPUT: true; the input reads as it did. -/
def storeNilSpec : ChangeSpec := { name := "storeNil", fn := fun _ => fun
  | [d1, d2, d3] => { results := [.lit (.bool true)], args := [d1, d2, d3] }
  | _ => none }
def storeNilRow : OpenClaim := { program := "ytdmcaaojapcbcaa", sum := "f67d8b0c9690cf08e5be929d0b23191172199fae9e0c32e0204edfa2b70ffce4", func := "palimpsest/palimpsestlaw06.StoreNil", spec := "storeNil", inPlace := ["internal/bytealg.IndexByte"], unfollowed := true, recurses := true, apart := false }
def StoreNilSaid : Prop := storeNilRow.holds Try.pinned (OpenSpec.ofChange storeNilSpec)

/-- ITS FALSE NEIGHBOUR: 'it returns false'. Refute it at one input. -/
def storeNilWrong : ChangeSpec := { name := "storeNil", fn := fun _ => fun
  | [d1, d2, d3] => { results := [.lit (.bool false)], args := [d1, d2, d3] }
  | _ => none }
def StoreNilWrongFalsely : Prop := storeNilRow.holds Try.pinned (OpenSpec.ofChange storeNilWrong)

/-- 'palimpsestlaw07.StopsAll': WHATEVER THE INPUT: true; the input reads as it did. -/
def stopsAllSpec : ChangeSpec := { name := "stopsAll", fn := fun _ => fun
  | [d1, d2] => { results := [.lit (.bool true)], args := [d1, d2] }
  | _ => none }
def stopsAllRow : OpenClaim := { program := "ytdmcaaojapcbcaa", sum := "f67d8b0c9690cf08e5be929d0b23191172199fae9e0c32e0204edfa2b70ffce4", func := "palimpsest/palimpsestlaw07.StopsAll", spec := "stopsAll", inPlace := ["internal/bytealg.IndexByte"], unfollowed := true, recurses := true, apart := false }
def StopsAllSaid : Prop := stopsAllRow.holds Try.pinned (OpenSpec.ofChange stopsAllSpec)

/-- ITS FALSE NEIGHBOUR: 'it returns false'. Refute it at one input. -/
def stopsAllWrong : ChangeSpec := { name := "stopsAll", fn := fun _ => fun
  | [d1, d2] => { results := [.lit (.bool false)], args := [d1, d2] }
  | _ => none }
def StopsAllWrongFalsely : Prop := stopsAllRow.holds Try.pinned (OpenSpec.ofChange stopsAllWrong)

/-- 'palimpsestlaw07.StopsSome': WHATEVER THE INPUT: true; the input reads as it did. -/
def stopsSomeSpec : ChangeSpec := { name := "stopsSome", fn := fun _ => fun
  | [d1, d2, d3] => { results := [.lit (.bool true)], args := [d1, d2, d3] }
  | _ => none }
def stopsSomeRow : OpenClaim := { program := "ytdmcaaojapcbcaa", sum := "f67d8b0c9690cf08e5be929d0b23191172199fae9e0c32e0204edfa2b70ffce4", func := "palimpsest/palimpsestlaw07.StopsSome", spec := "stopsSome", inPlace := ["internal/bytealg.IndexByte"], unfollowed := true, recurses := true, apart := false }
def StopsSomeSaid : Prop := stopsSomeRow.holds Try.pinned (OpenSpec.ofChange stopsSomeSpec)

/-- ITS FALSE NEIGHBOUR: 'it returns false'. Refute it at one input. -/
def stopsSomeWrong : ChangeSpec := { name := "stopsSome", fn := fun _ => fun
  | [d1, d2, d3] => { results := [.lit (.bool false)], args := [d1, d2, d3] }
  | _ => none }
def StopsSomeWrongFalsely : Prop := stopsSomeRow.holds Try.pinned (OpenSpec.ofChange stopsSomeWrong)

/- THE SECOND FORM. 'bulk': how many values and letters a reading holds, each counted each time it is reached (what is shared counts as often as it is met; a slice's spare places count too). A statement '..UptoSaid' is the law's where the arguments, and the package variables that the reading takes, are together of bulk at most 1048576: NARROWER than '..Said'. Prove '..Said' where nothing that the law and all that it calls make is longer than what came in: it says more and counts as full. Else prove '..UptoSaid'. A law counts once. -/
mutual
def uptoBulk {H : Type} : DataW H → Nat
  | .lit (.string bytes) => bytes.length + 1
  | .lit _ => 1
  | .nil => 1
  | .ptr d => uptoBulk d + 1
  | .slice elems spare => uptoBulkAll elems + uptoBulkAll spare + 1
  | .agg parts => uptoBulkAll parts + 1
  | .iface _ d => uptoBulk d + 1
  | .map entries => uptoBulkEntries entries + 1
  | .held _ => 1
def uptoBulkAll {H : Type} : List (DataW H) → Nat
  | [] => 0
  | d :: r => uptoBulk d + uptoBulkAll r
def uptoBulkEntries {H : Type} : List (Lit × DataW H) → Nat
  | [] => 0
  | x :: r => uptoBulkEntry x + uptoBulkEntries r
def uptoBulkEntry {H : Type} : Lit × DataW H → Nat
  | (.string bytes, d) => bytes.length + uptoBulk d + 1
  | (_, d) => uptoBulk d + 1
 end
def uptoSmall : (H : Type) → List (DataW H) → Bool := fun _ ds => decide (uptoBulkAll ds ≤ 1048576)
def OpenSpec.upto (s : _root_.Go.ChangeSpec) : _root_.Go.OpenSpec := { _root_.Go.OpenSpec.ofChange s with cond := some uptoSmall }

/-- 'palimpsestlaw07.StopsNumbers', WHERE WHAT IT READS IS OF BULK AT MOST 1048576: true; the input reads as it did. -/
def stopsNumbersUptoRow : OpenClaim := { program := "ytdmcaaojapcbcaa", sum := "f67d8b0c9690cf08e5be929d0b23191172199fae9e0c32e0204edfa2b70ffce4", func := "palimpsest/palimpsestlaw07.StopsNumbers", spec := "stopsNumbers", inPlace := ["internal/bytealg.IndexByte"], unfollowed := true, recurses := true, apart := false, narrowed := true }
def StopsNumbersUptoSaid : Prop := stopsNumbersUptoRow.holds Try.pinned (OpenSpec.upto stopsNumbersSpec)

/-- 'palimpsestlaw06.StoreCrash', WHERE WHAT IT READS IS OF BULK AT MOST 1048576: true; the input reads as it did. -/
def storeCrashUptoRow : OpenClaim := { program := "ytdmcaaojapcbcaa", sum := "f67d8b0c9690cf08e5be929d0b23191172199fae9e0c32e0204edfa2b70ffce4", func := "palimpsest/palimpsestlaw06.StoreCrash", spec := "storeCrash", inPlace := ["internal/bytealg.IndexByte"], unfollowed := true, recurses := true, apart := false, narrowed := true }
def StoreCrashUptoSaid : Prop := storeCrashUptoRow.holds Try.pinned (OpenSpec.upto storeCrashSpec)

/-- 'palimpsestlaw06.StoreFlushed', WHERE WHAT IT READS IS OF BULK AT MOST 1048576: true; the input reads as it did. -/
def storeFlushedUptoRow : OpenClaim := { program := "ytdmcaaojapcbcaa", sum := "f67d8b0c9690cf08e5be929d0b23191172199fae9e0c32e0204edfa2b70ffce4", func := "palimpsest/palimpsestlaw06.StoreFlushed", spec := "storeFlushed", inPlace := ["internal/bytealg.IndexByte"], unfollowed := true, recurses := true, apart := false, narrowed := true }
def StoreFlushedUptoSaid : Prop := storeFlushedUptoRow.holds Try.pinned (OpenSpec.upto storeFlushedSpec)

/-- 'palimpsestlaw06.StoreNil', WHERE WHAT IT READS IS OF BULK AT MOST 1048576: true; the input reads as it did. -/
def storeNilUptoRow : OpenClaim := { program := "ytdmcaaojapcbcaa", sum := "f67d8b0c9690cf08e5be929d0b23191172199fae9e0c32e0204edfa2b70ffce4", func := "palimpsest/palimpsestlaw06.StoreNil", spec := "storeNil", inPlace := ["internal/bytealg.IndexByte"], unfollowed := true, recurses := true, apart := false, narrowed := true }
def StoreNilUptoSaid : Prop := storeNilUptoRow.holds Try.pinned (OpenSpec.upto storeNilSpec)

/-- 'palimpsestlaw07.StopsAll', WHERE WHAT IT READS IS OF BULK AT MOST 1048576: true; the input reads as it did. -/
def stopsAllUptoRow : OpenClaim := { program := "ytdmcaaojapcbcaa", sum := "f67d8b0c9690cf08e5be929d0b23191172199fae9e0c32e0204edfa2b70ffce4", func := "palimpsest/palimpsestlaw07.StopsAll", spec := "stopsAll", inPlace := ["internal/bytealg.IndexByte"], unfollowed := true, recurses := true, apart := false, narrowed := true }
def StopsAllUptoSaid : Prop := stopsAllUptoRow.holds Try.pinned (OpenSpec.upto stopsAllSpec)

/-- 'palimpsestlaw07.StopsSome', WHERE WHAT IT READS IS OF BULK AT MOST 1048576: true; the input reads as it did. -/
def stopsSomeUptoRow : OpenClaim := { program := "ytdmcaaojapcbcaa", sum := "f67d8b0c9690cf08e5be929d0b23191172199fae9e0c32e0204edfa2b70ffce4", func := "palimpsest/palimpsestlaw07.StopsSome", spec := "stopsSome", inPlace := ["internal/bytealg.IndexByte"], unfollowed := true, recurses := true, apart := false, narrowed := true }
def StopsSomeUptoSaid : Prop := stopsSomeUptoRow.holds Try.pinned (OpenSpec.upto stopsSomeSpec)

end Rows
end Go.Proofs.Ytdmcaaojapcbcaa
