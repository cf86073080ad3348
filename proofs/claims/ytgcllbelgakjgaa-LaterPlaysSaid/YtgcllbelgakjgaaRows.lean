/-
  No cell of these rows narrows 'for every input' (looked for: loops, veiled, ifaces, maps, wideKeys, modest, calm, conditions, laid).
  DERIVED. THE GIVEN ROWS OF THIS SEAT. 5 by the template 'for every input the law returns true; each argument reads behind the call as it read before'; 0 by the template 'total and deterministic' (their statements: YtgcllbelgakjgaaTotals.lean).
  GIVEN WITH THE SEED: the statements are not yours to turn. If you find one false, say at which input.
  Laid BY PROGRAM, IN A SANDBOX (cutbox-rows.mjs): the forced cells as the released guide's own fill.sh prints them over the translation e87d9caf56b56922… (all of the seat's roots in one cut). By AI agents, Wed Nov 11 2026. No macro, syntax, notation, axiom, sorry.
-/
import Derived.Test.YtgcllbelgakjgaaChecked
import GoSem.Claim
import GoSem.ClaimJoined
import GoSem.ClaimMapViews
import Derived.JoinedTies
import Derived.KernelRfl
namespace Go.Proofs.Ytgcllbelgakjgaa
/- THE CELL 'sum', in the pinned program and in every row, IS THE sha256 OF THE DUMP (.gsa) THAT YtgcllbelgakjgaaProg.lean LOADS. Nothing in Lean hashes anything: it is a label: what it is worth is what the hold of that sum in a sandbox is worth. -/
noncomputable def Try.pinned : Pinned := { name := "ytgcllbelgakjgaa", sum := "e87d9caf56b56922fe258f1ac1ba1083ac32dec0b2a0429d939252e3c8f9465c", checked := Try.checked }
namespace Rows
def none {H : Type} : Left H := { results := [], args := [] }

/-- 'palimpsestlaw13.LaterFull': WHATEVER THE INPUT: true; the input reads as it did. -/
def laterFullSpec : ChangeSpec := { name := "laterFull", fn := fun _ => fun
  | [] => { results := [.lit (.bool true)], args := [] }
  | _ => none }
def laterFullRow : OpenClaim := { program := "ytgcllbelgakjgaa", sum := "e87d9caf56b56922fe258f1ac1ba1083ac32dec0b2a0429d939252e3c8f9465c", func := "palimpsest/palimpsestlaw13.LaterFull", spec := "laterFull", unfollowed := true, recurses := true, apart := false }
def LaterFullSaid : Prop := laterFullRow.holds Try.pinned (OpenSpec.ofChange laterFullSpec)

/-- ITS FALSE NEIGHBOUR: 'it returns false'. Refute it at one input. -/
def laterFullWrong : ChangeSpec := { name := "laterFull", fn := fun _ => fun
  | [] => { results := [.lit (.bool false)], args := [] }
  | _ => none }
def LaterFullWrongFalsely : Prop := laterFullRow.holds Try.pinned (OpenSpec.ofChange laterFullWrong)

/-- 'palimpsestlaw13.LaterGreatest': WHATEVER THE INPUT: true; the input reads as it did. -/
def laterGreatestSpec : ChangeSpec := { name := "laterGreatest", fn := fun _ => fun
  | [d] => { results := [.lit (.bool true)], args := [d] }
  | _ => none }
def laterGreatestRow : OpenClaim := { program := "ytgcllbelgakjgaa", sum := "e87d9caf56b56922fe258f1ac1ba1083ac32dec0b2a0429d939252e3c8f9465c", func := "palimpsest/palimpsestlaw13.LaterGreatest", spec := "laterGreatest", unfollowed := true, recurses := true, apart := false }
def LaterGreatestSaid : Prop := laterGreatestRow.holds Try.pinned (OpenSpec.ofChange laterGreatestSpec)

/-- ITS FALSE NEIGHBOUR: 'it returns false'. Refute it at one input. -/
def laterGreatestWrong : ChangeSpec := { name := "laterGreatest", fn := fun _ => fun
  | [d] => { results := [.lit (.bool false)], args := [d] }
  | _ => none }
def LaterGreatestWrongFalsely : Prop := laterGreatestRow.holds Try.pinned (OpenSpec.ofChange laterGreatestWrong)

/-- 'palimpsestlaw13.LaterDrained': WHATEVER THE INPUT: true; the input reads as it did. -/
def laterDrainedSpec : ChangeSpec := { name := "laterDrained", fn := fun _ => fun
  | [d1, d2, d3] => { results := [.lit (.bool true)], args := [d1, d2, d3] }
  | _ => none }
def laterDrainedRow : OpenClaim := { program := "ytgcllbelgakjgaa", sum := "e87d9caf56b56922fe258f1ac1ba1083ac32dec0b2a0429d939252e3c8f9465c", func := "palimpsest/palimpsestlaw13.LaterDrained", spec := "laterDrained", unfollowed := true, recurses := true, apart := false }
def LaterDrainedSaid : Prop := laterDrainedRow.holds Try.pinned (OpenSpec.ofChange laterDrainedSpec)

/-- ITS FALSE NEIGHBOUR: 'it returns false'. Refute it at one input. -/
def laterDrainedWrong : ChangeSpec := { name := "laterDrained", fn := fun _ => fun
  | [d1, d2, d3] => { results := [.lit (.bool false)], args := [d1, d2, d3] }
  | _ => none }
def LaterDrainedWrongFalsely : Prop := laterDrainedRow.holds Try.pinned (OpenSpec.ofChange laterDrainedWrong)

/-- 'palimpsestlaw13.LaterCut': WHATEVER THE INPUT: true; the input reads as it did. -/
def laterCutSpec : ChangeSpec := { name := "laterCut", fn := fun _ => fun
  | [d1, d2] => { results := [.lit (.bool true)], args := [d1, d2] }
  | _ => none }
def laterCutRow : OpenClaim := { program := "ytgcllbelgakjgaa", sum := "e87d9caf56b56922fe258f1ac1ba1083ac32dec0b2a0429d939252e3c8f9465c", func := "palimpsest/palimpsestlaw13.LaterCut", spec := "laterCut", unfollowed := true, recurses := true, apart := false }
def LaterCutSaid : Prop := laterCutRow.holds Try.pinned (OpenSpec.ofChange laterCutSpec)

/-- ITS FALSE NEIGHBOUR: 'it returns false'. Refute it at one input. -/
def laterCutWrong : ChangeSpec := { name := "laterCut", fn := fun _ => fun
  | [d1, d2] => { results := [.lit (.bool false)], args := [d1, d2] }
  | _ => none }
def LaterCutWrongFalsely : Prop := laterCutRow.holds Try.pinned (OpenSpec.ofChange laterCutWrong)

/-- 'palimpsestlaw13.LaterPlays': WHATEVER THE INPUT: true; the input reads as it did. -/
def laterPlaysSpec : ChangeSpec := { name := "laterPlays", fn := fun _ => fun
  | [d1, d2] => { results := [.lit (.bool true)], args := [d1, d2] }
  | _ => none }
def laterPlaysRow : OpenClaim := { program := "ytgcllbelgakjgaa", sum := "e87d9caf56b56922fe258f1ac1ba1083ac32dec0b2a0429d939252e3c8f9465c", func := "palimpsest/palimpsestlaw13.LaterPlays", spec := "laterPlays", unfollowed := true, recurses := true, apart := false }
def LaterPlaysSaid : Prop := laterPlaysRow.holds Try.pinned (OpenSpec.ofChange laterPlaysSpec)

/-- ITS FALSE NEIGHBOUR: 'it returns false'. Refute it at one input. -/
def laterPlaysWrong : ChangeSpec := { name := "laterPlays", fn := fun _ => fun
  | [d1, d2] => { results := [.lit (.bool false)], args := [d1, d2] }
  | _ => none }
def LaterPlaysWrongFalsely : Prop := laterPlaysRow.holds Try.pinned (OpenSpec.ofChange laterPlaysWrong)

/- THE SECOND FORM. 'bulk': how many values and letters a reading holds, each counted each time it is reached (what is shared counts as often as it is met; a slice's spare places count too). A statement '..UptoSaid' is the law's where the arguments, and the package variables that the reading takes, are together of bulk at most 1048576: NARROWER than '..Said'. Prove '..Said' where nothing that the law and all that it calls make is longer than what came in: it says more and counts as full. Else prove '..UptoSaid'. A law counts once. -/
mutual
def uptoBulk {H : Type} : DataW H → Nat
  | .lit (.string bytes) => bytes.length + 1
  | .lit _ => 1
  | .nil => 1
  | .ptr d => uptoBulk d + 1
  | .slice elems spare => uptoBulkAll elems + uptoBulkAll spare + 1
  | .agg parts => uptoBulkAll parts + 1
  | .iface _ d => uptoBulk d + 1
  | .map entries => uptoBulkEntries entries + 1
  | .held _ => 1
def uptoBulkAll {H : Type} : List (DataW H) → Nat
  | [] => 0
  | d :: r => uptoBulk d + uptoBulkAll r
def uptoBulkEntries {H : Type} : List (Lit × DataW H) → Nat
  | [] => 0
  | x :: r => uptoBulkEntry x + uptoBulkEntries r
def uptoBulkEntry {H : Type} : Lit × DataW H → Nat
  | (.string bytes, d) => bytes.length + uptoBulk d + 1
  | (_, d) => uptoBulk d + 1
 end
def uptoSmall : (H : Type) → List (DataW H) → Bool := fun _ ds => decide (uptoBulkAll ds ≤ 1048576)
def OpenSpec.upto (s : _root_.Go.ChangeSpec) : _root_.Go.OpenSpec := { _root_.Go.OpenSpec.ofChange s with cond := some uptoSmall }

/-- 'palimpsestlaw13.LaterFull', WHERE WHAT IT READS IS OF BULK AT MOST 1048576: true; the input reads as it did. -/
def laterFullUptoRow : OpenClaim := { program := "ytgcllbelgakjgaa", sum := "e87d9caf56b56922fe258f1ac1ba1083ac32dec0b2a0429d939252e3c8f9465c", func := "palimpsest/palimpsestlaw13.LaterFull", spec := "laterFull", unfollowed := true, recurses := true, apart := false, narrowed := true }
def LaterFullUptoSaid : Prop := laterFullUptoRow.holds Try.pinned (OpenSpec.upto laterFullSpec)

/-- 'palimpsestlaw13.LaterGreatest', WHERE WHAT IT READS IS OF BULK AT MOST 1048576: true; the input reads as it did. -/
def laterGreatestUptoRow : OpenClaim := { program := "ytgcllbelgakjgaa", sum := "e87d9caf56b56922fe258f1ac1ba1083ac32dec0b2a0429d939252e3c8f9465c", func := "palimpsest/palimpsestlaw13.LaterGreatest", spec := "laterGreatest", unfollowed := true, recurses := true, apart := false, narrowed := true }
def LaterGreatestUptoSaid : Prop := laterGreatestUptoRow.holds Try.pinned (OpenSpec.upto laterGreatestSpec)

/-- 'palimpsestlaw13.LaterDrained', WHERE WHAT IT READS IS OF BULK AT MOST 1048576: true; the input reads as it did. -/
def laterDrainedUptoRow : OpenClaim := { program := "ytgcllbelgakjgaa", sum := "e87d9caf56b56922fe258f1ac1ba1083ac32dec0b2a0429d939252e3c8f9465c", func := "palimpsest/palimpsestlaw13.LaterDrained", spec := "laterDrained", unfollowed := true, recurses := true, apart := false, narrowed := true }
def LaterDrainedUptoSaid : Prop := laterDrainedUptoRow.holds Try.pinned (OpenSpec.upto laterDrainedSpec)

/-- 'palimpsestlaw13.LaterCut', WHERE WHAT IT READS IS OF BULK AT MOST 1048576: true; the input reads as it did. -/
def laterCutUptoRow : OpenClaim := { program := "ytgcllbelgakjgaa", sum := "e87d9caf56b56922fe258f1ac1ba1083ac32dec0b2a0429d939252e3c8f9465c", func := "palimpsest/palimpsestlaw13.LaterCut", spec := "laterCut", unfollowed := true, recurses := true, apart := false, narrowed := true }
def LaterCutUptoSaid : Prop := laterCutUptoRow.holds Try.pinned (OpenSpec.upto laterCutSpec)

/-- 'palimpsestlaw13.LaterPlays', WHERE WHAT IT READS IS OF BULK AT MOST 1048576: true; the input reads as it did. -/
def laterPlaysUptoRow : OpenClaim := { program := "ytgcllbelgakjgaa", sum := "e87d9caf56b56922fe258f1ac1ba1083ac32dec0b2a0429d939252e3c8f9465c", func := "palimpsest/palimpsestlaw13.LaterPlays", spec := "laterPlays", unfollowed := true, recurses := true, apart := false, narrowed := true }
def LaterPlaysUptoSaid : Prop := laterPlaysUptoRow.holds Try.pinned (OpenSpec.upto laterPlaysSpec)

end Rows
end Go.Proofs.Ytgcllbelgakjgaa
