/-
  No cell of these rows narrows 'for every input' (looked for: loops, veiled, ifaces, maps, wideKeys, modest, calm, conditions, laid).
  DERIVED. THE GIVEN ROWS OF THIS SEAT. 3 by the template 'for every input the law returns true; each argument reads behind the call as it read before'; 0 by the template 'total and deterministic' (their statements: YtcgboagadgehjaaTotals.lean).
  GIVEN WITH THE SEED: the statements are not yours to turn. If you find one false, say at which input.
  Laid BY PROGRAM, IN A SANDBOX (cutbox-rows.mjs): the forced cells as the released guide's own fill.sh prints them over the translation 65bb583e7cb05701… (all of the seat's roots in one cut). By AI agents, Wed Nov 11 2026. No macro, syntax, notation, axiom, sorry.
-/
import Derived.Test.YtcgboagadgehjaaChecked
import GoSem.Claim
import GoSem.ClaimJoined
import GoSem.ClaimMapViews
import Derived.JoinedTies
import Derived.KernelRfl
namespace Go.Proofs.Ytcgboagadgehjaa
/- THE CELL 'sum', in the pinned program and in every row, IS THE sha256 OF THE DUMP (.gsa) THAT YtcgboagadgehjaaProg.lean LOADS. Nothing in Lean hashes anything: it is a label: what it is worth is what the hold of that sum in a sandbox is worth. -/
noncomputable def Try.pinned : Pinned := { name := "ytcgboagadgehjaa", sum := "65bb583e7cb0570154c65ef366990b0bf066c0005fdd83dbc93964a181c27979", checked := Try.checked }
namespace Rows
def none {H : Type} : Left H := { results := [], args := [] }

/-- 'palimpsestlaw25.ModelCompare': WHATEVER THE INPUT: true; the input reads as it did. -/
def modelCompareSpec : ChangeSpec := { name := "modelCompare", fn := fun _ => fun
  | [d1, d2, d3] => { results := [.lit (.bool true)], args := [d1, d2, d3] }
  | _ => none }
def modelCompareRow : OpenClaim := { program := "ytcgboagadgehjaa", sum := "65bb583e7cb0570154c65ef366990b0bf066c0005fdd83dbc93964a181c27979", func := "palimpsest/palimpsestlaw25.ModelCompare", spec := "modelCompare", unfollowed := true, recurses := true, apart := false }
def ModelCompareSaid : Prop := modelCompareRow.holds Try.pinned (OpenSpec.ofChange modelCompareSpec)

/-- ITS FALSE NEIGHBOUR: 'it returns false'. Refute it at one input. -/
def modelCompareWrong : ChangeSpec := { name := "modelCompare", fn := fun _ => fun
  | [d1, d2, d3] => { results := [.lit (.bool false)], args := [d1, d2, d3] }
  | _ => none }
def ModelCompareWrongFalsely : Prop := modelCompareRow.holds Try.pinned (OpenSpec.ofChange modelCompareWrong)

/-- 'palimpsestlaw25.ModelOwn': WHATEVER THE INPUT: true; the input reads as it did. -/
def modelOwnSpec : ChangeSpec := { name := "modelOwn", fn := fun _ => fun
  | [d1, d2, d3] => { results := [.lit (.bool true)], args := [d1, d2, d3] }
  | _ => none }
def modelOwnRow : OpenClaim := { program := "ytcgboagadgehjaa", sum := "65bb583e7cb0570154c65ef366990b0bf066c0005fdd83dbc93964a181c27979", func := "palimpsest/palimpsestlaw25.ModelOwn", spec := "modelOwn", unfollowed := true, recurses := true, apart := false }
def ModelOwnSaid : Prop := modelOwnRow.holds Try.pinned (OpenSpec.ofChange modelOwnSpec)

/-- ITS FALSE NEIGHBOUR: 'it returns false'. Refute it at one input. -/
def modelOwnWrong : ChangeSpec := { name := "modelOwn", fn := fun _ => fun
  | [d1, d2, d3] => { results := [.lit (.bool false)], args := [d1, d2, d3] }
  | _ => none }
def ModelOwnWrongFalsely : Prop := modelOwnRow.holds Try.pinned (OpenSpec.ofChange modelOwnWrong)

/-- 'palimpsestlaw25.ModelDeep': WHATEVER THE INPUT: true; the input reads as it did. -/
def modelDeepSpec : ChangeSpec := { name := "modelDeep", fn := fun _ => fun
  | [] => { results := [.lit (.bool true)], args := [] }
  | _ => none }
def modelDeepRow : OpenClaim := { program := "ytcgboagadgehjaa", sum := "65bb583e7cb0570154c65ef366990b0bf066c0005fdd83dbc93964a181c27979", func := "palimpsest/palimpsestlaw25.ModelDeep", spec := "modelDeep", unfollowed := true, recurses := true, apart := false }
def ModelDeepSaid : Prop := modelDeepRow.holds Try.pinned (OpenSpec.ofChange modelDeepSpec)

/-- ITS FALSE NEIGHBOUR: 'it returns false'. Refute it at one input. -/
def modelDeepWrong : ChangeSpec := { name := "modelDeep", fn := fun _ => fun
  | [] => { results := [.lit (.bool false)], args := [] }
  | _ => none }
def ModelDeepWrongFalsely : Prop := modelDeepRow.holds Try.pinned (OpenSpec.ofChange modelDeepWrong)

/- THE SECOND FORM. 'bulk': how many values and letters a reading holds, each counted each time it is reached (what is shared counts as often as it is met; a slice's spare places count too). A statement '..UptoSaid' is the law's where the arguments, and the package variables that the reading takes, are together of bulk at most 1048576: NARROWER than '..Said'. Prove '..Said' where nothing that the law and all that it calls make is longer than what came in: it says more and counts as full. Else prove '..UptoSaid'. A law counts once. -/
mutual
def uptoBulk {H : Type} : DataW H → Nat
  | .lit (.string bytes) => bytes.length + 1
  | .lit _ => 1
  | .nil => 1
  | .ptr d => uptoBulk d + 1
  | .slice elems spare => uptoBulkAll elems + uptoBulkAll spare + 1
  | .agg parts => uptoBulkAll parts + 1
  | .iface _ d => uptoBulk d + 1
  | .map entries => uptoBulkEntries entries + 1
  | .held _ => 1
def uptoBulkAll {H : Type} : List (DataW H) → Nat
  | [] => 0
  | d :: r => uptoBulk d + uptoBulkAll r
def uptoBulkEntries {H : Type} : List (Lit × DataW H) → Nat
  | [] => 0
  | x :: r => uptoBulkEntry x + uptoBulkEntries r
def uptoBulkEntry {H : Type} : Lit × DataW H → Nat
  | (.string bytes, d) => bytes.length + uptoBulk d + 1
  | (_, d) => uptoBulk d + 1
 end
def uptoSmall : (H : Type) → List (DataW H) → Bool := fun _ ds => decide (uptoBulkAll ds ≤ 1048576)
def OpenSpec.upto (s : _root_.Go.ChangeSpec) : _root_.Go.OpenSpec := { _root_.Go.OpenSpec.ofChange s with cond := some uptoSmall }

/-- 'palimpsestlaw25.ModelCompare', WHERE WHAT IT READS IS OF BULK AT MOST 1048576: true; the input reads as it did. -/
def modelCompareUptoRow : OpenClaim := { program := "ytcgboagadgehjaa", sum := "65bb583e7cb0570154c65ef366990b0bf066c0005fdd83dbc93964a181c27979", func := "palimpsest/palimpsestlaw25.ModelCompare", spec := "modelCompare", unfollowed := true, recurses := true, apart := false, narrowed := true }
def ModelCompareUptoSaid : Prop := modelCompareUptoRow.holds Try.pinned (OpenSpec.upto modelCompareSpec)

/-- 'palimpsestlaw25.ModelOwn', WHERE WHAT IT READS IS OF BULK AT MOST 1048576: true; the input reads as it did. -/
def modelOwnUptoRow : OpenClaim := { program := "ytcgboagadgehjaa", sum := "65bb583e7cb0570154c65ef366990b0bf066c0005fdd83dbc93964a181c27979", func := "palimpsest/palimpsestlaw25.ModelOwn", spec := "modelOwn", unfollowed := true, recurses := true, apart := false, narrowed := true }
def ModelOwnUptoSaid : Prop := modelOwnUptoRow.holds Try.pinned (OpenSpec.upto modelOwnSpec)

/-- 'palimpsestlaw25.ModelDeep', WHERE WHAT IT READS IS OF BULK AT MOST 1048576: true; the input reads as it did. -/
def modelDeepUptoRow : OpenClaim := { program := "ytcgboagadgehjaa", sum := "65bb583e7cb0570154c65ef366990b0bf066c0005fdd83dbc93964a181c27979", func := "palimpsest/palimpsestlaw25.ModelDeep", spec := "modelDeep", unfollowed := true, recurses := true, apart := false, narrowed := true }
def ModelDeepUptoSaid : Prop := modelDeepUptoRow.holds Try.pinned (OpenSpec.upto modelDeepSpec)

end Rows
end Go.Proofs.Ytcgboagadgehjaa
