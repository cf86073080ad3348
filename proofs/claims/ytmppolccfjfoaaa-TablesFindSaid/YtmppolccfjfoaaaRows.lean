/-
  No cell of these rows narrows 'for every input' (looked for: loops, veiled, ifaces, maps, wideKeys, modest, calm, conditions, laid).
  DERIVED. THE GIVEN ROWS OF THIS SEAT. 12 by the template 'for every input the law returns true; each argument reads behind the call as it read before'; 0 by the template 'total and deterministic' (their statements: YtmppolccfjfoaaaTotals.lean).
  GIVEN WITH THE SEED: the statements are not yours to turn. If you find one false, say at which input.
  Laid BY PROGRAM, IN A SANDBOX (cutbox-rows.mjs): the forced cells as the released guide's own fill.sh prints them over the translation 814d82015a93a93a… (all of the seat's roots in one cut). By AI agents, Wed Nov 11 2026. No macro, syntax, notation, axiom, sorry.
-/
import Derived.Test.YtmppolccfjfoaaaChecked
import GoSem.Claim
import GoSem.ClaimJoined
import GoSem.ClaimMapViews
import Derived.JoinedTies
import Derived.KernelRfl
namespace Go.Proofs.Ytmppolccfjfoaaa
/- THE CELL 'sum', in the pinned program and in every row, IS THE sha256 OF THE DUMP (.gsa) THAT YtmppolccfjfoaaaProg.lean LOADS. Nothing in Lean hashes anything: it is a label: what it is worth is what the hold of that sum in a sandbox is worth. -/
noncomputable def Try.pinned : Pinned := { name := "ytmppolccfjfoaaa", sum := "814d82015a93a93a86201bbab63f7ccca5920603d7e325d2fb6f1544e02bf8cd", checked := Try.checked }
namespace Rows
def none {H : Type} : Left H := { results := [], args := [] }

/-- 'palimpsestlaw09.EntryWords': WHATEVER THE INPUT: true; the input reads as it did. -/
def entryWordsSpec : ChangeSpec := { name := "entryWords", fn := fun _ => fun
  | [d1, d2, d3] => { results := [.lit (.bool true)], args := [d1, d2, d3] }
  | _ => none }
def entryWordsRow : OpenClaim := { program := "ytmppolccfjfoaaa", sum := "814d82015a93a93a86201bbab63f7ccca5920603d7e325d2fb6f1544e02bf8cd", func := "palimpsest/palimpsestlaw09.EntryWords", spec := "entryWords", apart := false }
def EntryWordsSaid : Prop := entryWordsRow.holds Try.pinned (OpenSpec.ofChange entryWordsSpec)

/-- ITS FALSE NEIGHBOUR: 'it returns false'. Refute it at one input. -/
def entryWordsWrong : ChangeSpec := { name := "entryWords", fn := fun _ => fun
  | [d1, d2, d3] => { results := [.lit (.bool false)], args := [d1, d2, d3] }
  | _ => none }
def EntryWordsWrongFalsely : Prop := entryWordsRow.holds Try.pinned (OpenSpec.ofChange entryWordsWrong)

/-- 'palimpsestlaw01.WireNumbers': WHATEVER THE INPUT: true; the input reads as it did. -/
def wireNumbersSpec : ChangeSpec := { name := "wireNumbers", fn := fun _ => fun
  | [d1, d2, d3] => { results := [.lit (.bool true)], args := [d1, d2, d3] }
  | _ => none }
def wireNumbersRow : OpenClaim := { program := "ytmppolccfjfoaaa", sum := "814d82015a93a93a86201bbab63f7ccca5920603d7e325d2fb6f1544e02bf8cd", func := "palimpsest/palimpsestlaw01.WireNumbers", spec := "wireNumbers", apart := false }
def WireNumbersSaid : Prop := wireNumbersRow.holds Try.pinned (OpenSpec.ofChange wireNumbersSpec)

/-- ITS FALSE NEIGHBOUR: 'it returns false'. Refute it at one input. -/
def wireNumbersWrong : ChangeSpec := { name := "wireNumbers", fn := fun _ => fun
  | [d1, d2, d3] => { results := [.lit (.bool false)], args := [d1, d2, d3] }
  | _ => none }
def WireNumbersWrongFalsely : Prop := wireNumbersRow.holds Try.pinned (OpenSpec.ofChange wireNumbersWrong)

/-- 'palimpsestlaw01.WireTexts': WHATEVER THE INPUT: true; the input reads as it did. -/
def wireTextsSpec : ChangeSpec := { name := "wireTexts", fn := fun _ => fun
  | [d1, d2, d3] => { results := [.lit (.bool true)], args := [d1, d2, d3] }
  | _ => none }
def wireTextsRow : OpenClaim := { program := "ytmppolccfjfoaaa", sum := "814d82015a93a93a86201bbab63f7ccca5920603d7e325d2fb6f1544e02bf8cd", func := "palimpsest/palimpsestlaw01.WireTexts", spec := "wireTexts", apart := false }
def WireTextsSaid : Prop := wireTextsRow.holds Try.pinned (OpenSpec.ofChange wireTextsSpec)

/-- ITS FALSE NEIGHBOUR: 'it returns false'. Refute it at one input. -/
def wireTextsWrong : ChangeSpec := { name := "wireTexts", fn := fun _ => fun
  | [d1, d2, d3] => { results := [.lit (.bool false)], args := [d1, d2, d3] }
  | _ => none }
def WireTextsWrongFalsely : Prop := wireTextsRow.holds Try.pinned (OpenSpec.ofChange wireTextsWrong)

/-- 'palimpsestlaw01.WireParts': WHATEVER THE INPUT: true; the input reads as it did. -/
def wirePartsSpec : ChangeSpec := { name := "wireParts", fn := fun _ => fun
  | [d1, d2, d3] => { results := [.lit (.bool true)], args := [d1, d2, d3] }
  | _ => none }
def wirePartsRow : OpenClaim := { program := "ytmppolccfjfoaaa", sum := "814d82015a93a93a86201bbab63f7ccca5920603d7e325d2fb6f1544e02bf8cd", func := "palimpsest/palimpsestlaw01.WireParts", spec := "wireParts", apart := false }
def WirePartsSaid : Prop := wirePartsRow.holds Try.pinned (OpenSpec.ofChange wirePartsSpec)

/-- ITS FALSE NEIGHBOUR: 'it returns false'. Refute it at one input. -/
def wirePartsWrong : ChangeSpec := { name := "wireParts", fn := fun _ => fun
  | [d1, d2, d3] => { results := [.lit (.bool false)], args := [d1, d2, d3] }
  | _ => none }
def WirePartsWrongFalsely : Prop := wirePartsRow.holds Try.pinned (OpenSpec.ofChange wirePartsWrong)

/-- 'palimpsestlaw09.EntryTables': WHATEVER THE INPUT: true; the input reads as it did. -/
def entryTablesSpec : ChangeSpec := { name := "entryTables", fn := fun _ => fun
  | [d1, d2, d3] => { results := [.lit (.bool true)], args := [d1, d2, d3] }
  | _ => none }
def entryTablesRow : OpenClaim := { program := "ytmppolccfjfoaaa", sum := "814d82015a93a93a86201bbab63f7ccca5920603d7e325d2fb6f1544e02bf8cd", func := "palimpsest/palimpsestlaw09.EntryTables", spec := "entryTables", apart := false }
def EntryTablesSaid : Prop := entryTablesRow.holds Try.pinned (OpenSpec.ofChange entryTablesSpec)

/-- ITS FALSE NEIGHBOUR: 'it returns false'. Refute it at one input. -/
def entryTablesWrong : ChangeSpec := { name := "entryTables", fn := fun _ => fun
  | [d1, d2, d3] => { results := [.lit (.bool false)], args := [d1, d2, d3] }
  | _ => none }
def EntryTablesWrongFalsely : Prop := entryTablesRow.holds Try.pinned (OpenSpec.ofChange entryTablesWrong)

/-- 'palimpsestlaw09.EntryAll': WHATEVER THE INPUT: true; the input reads as it did. -/
def entryAllSpec : ChangeSpec := { name := "entryAll", fn := fun _ => fun
  | [d1, d2, d3] => { results := [.lit (.bool true)], args := [d1, d2, d3] }
  | _ => none }
def entryAllRow : OpenClaim := { program := "ytmppolccfjfoaaa", sum := "814d82015a93a93a86201bbab63f7ccca5920603d7e325d2fb6f1544e02bf8cd", func := "palimpsest/palimpsestlaw09.EntryAll", spec := "entryAll", unfollowed := true, recurses := true, apart := false }
def EntryAllSaid : Prop := entryAllRow.holds Try.pinned (OpenSpec.ofChange entryAllSpec)

/-- ITS FALSE NEIGHBOUR: 'it returns false'. Refute it at one input. -/
def entryAllWrong : ChangeSpec := { name := "entryAll", fn := fun _ => fun
  | [d1, d2, d3] => { results := [.lit (.bool false)], args := [d1, d2, d3] }
  | _ => none }
def EntryAllWrongFalsely : Prop := entryAllRow.holds Try.pinned (OpenSpec.ofChange entryAllWrong)

/-- 'palimpsestlaw10.CountsOne': WHATEVER THE INPUT: true; the input reads as it did. -/
def countsOneSpec : ChangeSpec := { name := "countsOne", fn := fun _ => fun
  | [d1, d2, d3] => { results := [.lit (.bool true)], args := [d1, d2, d3] }
  | _ => none }
def countsOneRow : OpenClaim := { program := "ytmppolccfjfoaaa", sum := "814d82015a93a93a86201bbab63f7ccca5920603d7e325d2fb6f1544e02bf8cd", func := "palimpsest/palimpsestlaw10.CountsOne", spec := "countsOne", unfollowed := true, recurses := true, apart := false }
def CountsOneSaid : Prop := countsOneRow.holds Try.pinned (OpenSpec.ofChange countsOneSpec)

/-- ITS FALSE NEIGHBOUR: 'it returns false'. Refute it at one input. -/
def countsOneWrong : ChangeSpec := { name := "countsOne", fn := fun _ => fun
  | [d1, d2, d3] => { results := [.lit (.bool false)], args := [d1, d2, d3] }
  | _ => none }
def CountsOneWrongFalsely : Prop := countsOneRow.holds Try.pinned (OpenSpec.ofChange countsOneWrong)

/-- 'palimpsestlaw10.CountsFree': WHATEVER THE INPUT: true; the input reads as it did. -/
def countsFreeSpec : ChangeSpec := { name := "countsFree", fn := fun _ => fun
  | [d1, d2, d3] => { results := [.lit (.bool true)], args := [d1, d2, d3] }
  | _ => none }
def countsFreeRow : OpenClaim := { program := "ytmppolccfjfoaaa", sum := "814d82015a93a93a86201bbab63f7ccca5920603d7e325d2fb6f1544e02bf8cd", func := "palimpsest/palimpsestlaw10.CountsFree", spec := "countsFree", unfollowed := true, recurses := true, apart := false }
def CountsFreeSaid : Prop := countsFreeRow.holds Try.pinned (OpenSpec.ofChange countsFreeSpec)

/-- ITS FALSE NEIGHBOUR: 'it returns false'. Refute it at one input. -/
def countsFreeWrong : ChangeSpec := { name := "countsFree", fn := fun _ => fun
  | [d1, d2, d3] => { results := [.lit (.bool false)], args := [d1, d2, d3] }
  | _ => none }
def CountsFreeWrongFalsely : Prop := countsFreeRow.holds Try.pinned (OpenSpec.ofChange countsFreeWrong)

/-- 'palimpsestlaw10.CountsAll': WHATEVER THE INPUT: true; the input reads as it did. -/
def countsAllSpec : ChangeSpec := { name := "countsAll", fn := fun _ => fun
  | [d1, d2] => { results := [.lit (.bool true)], args := [d1, d2] }
  | _ => none }
def countsAllRow : OpenClaim := { program := "ytmppolccfjfoaaa", sum := "814d82015a93a93a86201bbab63f7ccca5920603d7e325d2fb6f1544e02bf8cd", func := "palimpsest/palimpsestlaw10.CountsAll", spec := "countsAll", unfollowed := true, recurses := true, apart := false }
def CountsAllSaid : Prop := countsAllRow.holds Try.pinned (OpenSpec.ofChange countsAllSpec)

/-- ITS FALSE NEIGHBOUR: 'it returns false'. Refute it at one input. -/
def countsAllWrong : ChangeSpec := { name := "countsAll", fn := fun _ => fun
  | [d1, d2] => { results := [.lit (.bool false)], args := [d1, d2] }
  | _ => none }
def CountsAllWrongFalsely : Prop := countsAllRow.holds Try.pinned (OpenSpec.ofChange countsAllWrong)

/-- 'palimpsestlaw11.TablesSnaps': WHATEVER THE INPUT: true; the input reads as it did. -/
def tablesSnapsSpec : ChangeSpec := { name := "tablesSnaps", fn := fun _ => fun
  | [d1, d2] => { results := [.lit (.bool true)], args := [d1, d2] }
  | _ => none }
def tablesSnapsRow : OpenClaim := { program := "ytmppolccfjfoaaa", sum := "814d82015a93a93a86201bbab63f7ccca5920603d7e325d2fb6f1544e02bf8cd", func := "palimpsest/palimpsestlaw11.TablesSnaps", spec := "tablesSnaps", inPlace := ["internal/bytealg.IndexByteString", "internal/bytealg.IndexString"], unfollowed := true, recurses := true, named := ["internal/bytealg.MaxLen"], apart := false }
def TablesSnapsSaid : Prop := tablesSnapsRow.holds Try.pinned (OpenSpec.ofChange tablesSnapsSpec)

/-- ITS FALSE NEIGHBOUR: 'it returns false'. Refute it at one input. -/
def tablesSnapsWrong : ChangeSpec := { name := "tablesSnaps", fn := fun _ => fun
  | [d1, d2] => { results := [.lit (.bool false)], args := [d1, d2] }
  | _ => none }
def TablesSnapsWrongFalsely : Prop := tablesSnapsRow.holds Try.pinned (OpenSpec.ofChange tablesSnapsWrong)

/-- 'palimpsestlaw11.TablesParts': WHATEVER THE INPUT: true; the input reads as it did. -/
def tablesPartsSpec : ChangeSpec := { name := "tablesParts", fn := fun _ => fun
  | [d1, d2, d3] => { results := [.lit (.bool true)], args := [d1, d2, d3] }
  | _ => none }
def tablesPartsRow : OpenClaim := { program := "ytmppolccfjfoaaa", sum := "814d82015a93a93a86201bbab63f7ccca5920603d7e325d2fb6f1544e02bf8cd", func := "palimpsest/palimpsestlaw11.TablesParts", spec := "tablesParts", inPlace := ["internal/bytealg.IndexByteString", "internal/bytealg.IndexString"], unfollowed := true, recurses := true, named := ["internal/bytealg.MaxLen"], apart := false }
def TablesPartsSaid : Prop := tablesPartsRow.holds Try.pinned (OpenSpec.ofChange tablesPartsSpec)

/-- ITS FALSE NEIGHBOUR: 'it returns false'. Refute it at one input. -/
def tablesPartsWrong : ChangeSpec := { name := "tablesParts", fn := fun _ => fun
  | [d1, d2, d3] => { results := [.lit (.bool false)], args := [d1, d2, d3] }
  | _ => none }
def TablesPartsWrongFalsely : Prop := tablesPartsRow.holds Try.pinned (OpenSpec.ofChange tablesPartsWrong)

/-- 'palimpsestlaw11.TablesFind': WHATEVER THE INPUT: true; the input reads as it did. -/
def tablesFindSpec : ChangeSpec := { name := "tablesFind", fn := fun _ => fun
  | [d1, d2, d3] => { results := [.lit (.bool true)], args := [d1, d2, d3] }
  | _ => none }
def tablesFindRow : OpenClaim := { program := "ytmppolccfjfoaaa", sum := "814d82015a93a93a86201bbab63f7ccca5920603d7e325d2fb6f1544e02bf8cd", func := "palimpsest/palimpsestlaw11.TablesFind", spec := "tablesFind", inPlace := ["internal/bytealg.IndexByteString", "internal/bytealg.IndexString"], unfollowed := true, recurses := true, named := ["internal/bytealg.MaxLen"], apart := false }
def TablesFindSaid : Prop := tablesFindRow.holds Try.pinned (OpenSpec.ofChange tablesFindSpec)

/-- ITS FALSE NEIGHBOUR: 'it returns false'. Refute it at one input. -/
def tablesFindWrong : ChangeSpec := { name := "tablesFind", fn := fun _ => fun
  | [d1, d2, d3] => { results := [.lit (.bool false)], args := [d1, d2, d3] }
  | _ => none }
def TablesFindWrongFalsely : Prop := tablesFindRow.holds Try.pinned (OpenSpec.ofChange tablesFindWrong)

/- THE SECOND FORM. 'bulk': how many values and letters a reading holds, each counted each time it is reached (what is shared counts as often as it is met; a slice's spare places count too). A statement '..UptoSaid' is the law's where the arguments, and the package variables that the reading takes, are together of bulk at most 1048576: NARROWER than '..Said'. Prove '..Said' where nothing that the law and all that it calls make is longer than what came in: it says more and counts as full. Else prove '..UptoSaid'. A law counts once. -/
mutual
def uptoBulk {H : Type} : DataW H → Nat
  | .lit (.string bytes) => bytes.length + 1
  | .lit _ => 1
  | .nil => 1
  | .ptr d => uptoBulk d + 1
  | .slice elems spare => uptoBulkAll elems + uptoBulkAll spare + 1
  | .agg parts => uptoBulkAll parts + 1
  | .iface _ d => uptoBulk d + 1
  | .map entries => uptoBulkEntries entries + 1
  | .held _ => 1
def uptoBulkAll {H : Type} : List (DataW H) → Nat
  | [] => 0
  | d :: r => uptoBulk d + uptoBulkAll r
def uptoBulkEntries {H : Type} : List (Lit × DataW H) → Nat
  | [] => 0
  | x :: r => uptoBulkEntry x + uptoBulkEntries r
def uptoBulkEntry {H : Type} : Lit × DataW H → Nat
  | (.string bytes, d) => bytes.length + uptoBulk d + 1
  | (_, d) => uptoBulk d + 1
 end
def uptoSmall : (H : Type) → List (DataW H) → Bool := fun _ ds => decide (uptoBulkAll ds ≤ 1048576)
def OpenSpec.upto (s : _root_.Go.ChangeSpec) : _root_.Go.OpenSpec := { _root_.Go.OpenSpec.ofChange s with cond := some uptoSmall }

/-- 'palimpsestlaw09.EntryWords', WHERE WHAT IT READS IS OF BULK AT MOST 1048576: true; the input reads as it did. -/
def entryWordsUptoRow : OpenClaim := { program := "ytmppolccfjfoaaa", sum := "814d82015a93a93a86201bbab63f7ccca5920603d7e325d2fb6f1544e02bf8cd", func := "palimpsest/palimpsestlaw09.EntryWords", spec := "entryWords", apart := false, narrowed := true }
def EntryWordsUptoSaid : Prop := entryWordsUptoRow.holds Try.pinned (OpenSpec.upto entryWordsSpec)

/-- 'palimpsestlaw01.WireNumbers', WHERE WHAT IT READS IS OF BULK AT MOST 1048576: true; the input reads as it did. -/
def wireNumbersUptoRow : OpenClaim := { program := "ytmppolccfjfoaaa", sum := "814d82015a93a93a86201bbab63f7ccca5920603d7e325d2fb6f1544e02bf8cd", func := "palimpsest/palimpsestlaw01.WireNumbers", spec := "wireNumbers", apart := false, narrowed := true }
def WireNumbersUptoSaid : Prop := wireNumbersUptoRow.holds Try.pinned (OpenSpec.upto wireNumbersSpec)

/-- 'palimpsestlaw01.WireTexts', WHERE WHAT IT READS IS OF BULK AT MOST 1048576: true; the input reads as it did. -/
def wireTextsUptoRow : OpenClaim := { program := "ytmppolccfjfoaaa", sum := "814d82015a93a93a86201bbab63f7ccca5920603d7e325d2fb6f1544e02bf8cd", func := "palimpsest/palimpsestlaw01.WireTexts", spec := "wireTexts", apart := false, narrowed := true }
def WireTextsUptoSaid : Prop := wireTextsUptoRow.holds Try.pinned (OpenSpec.upto wireTextsSpec)

/-- 'palimpsestlaw01.WireParts', WHERE WHAT IT READS IS OF BULK AT MOST 1048576: true; the input reads as it did. -/
def wirePartsUptoRow : OpenClaim := { program := "ytmppolccfjfoaaa", sum := "814d82015a93a93a86201bbab63f7ccca5920603d7e325d2fb6f1544e02bf8cd", func := "palimpsest/palimpsestlaw01.WireParts", spec := "wireParts", apart := false, narrowed := true }
def WirePartsUptoSaid : Prop := wirePartsUptoRow.holds Try.pinned (OpenSpec.upto wirePartsSpec)

/-- 'palimpsestlaw09.EntryTables', WHERE WHAT IT READS IS OF BULK AT MOST 1048576: true; the input reads as it did. -/
def entryTablesUptoRow : OpenClaim := { program := "ytmppolccfjfoaaa", sum := "814d82015a93a93a86201bbab63f7ccca5920603d7e325d2fb6f1544e02bf8cd", func := "palimpsest/palimpsestlaw09.EntryTables", spec := "entryTables", apart := false, narrowed := true }
def EntryTablesUptoSaid : Prop := entryTablesUptoRow.holds Try.pinned (OpenSpec.upto entryTablesSpec)

/-- 'palimpsestlaw09.EntryAll', WHERE WHAT IT READS IS OF BULK AT MOST 1048576: true; the input reads as it did. -/
def entryAllUptoRow : OpenClaim := { program := "ytmppolccfjfoaaa", sum := "814d82015a93a93a86201bbab63f7ccca5920603d7e325d2fb6f1544e02bf8cd", func := "palimpsest/palimpsestlaw09.EntryAll", spec := "entryAll", unfollowed := true, recurses := true, apart := false, narrowed := true }
def EntryAllUptoSaid : Prop := entryAllUptoRow.holds Try.pinned (OpenSpec.upto entryAllSpec)

/-- 'palimpsestlaw10.CountsOne', WHERE WHAT IT READS IS OF BULK AT MOST 1048576: true; the input reads as it did. -/
def countsOneUptoRow : OpenClaim := { program := "ytmppolccfjfoaaa", sum := "814d82015a93a93a86201bbab63f7ccca5920603d7e325d2fb6f1544e02bf8cd", func := "palimpsest/palimpsestlaw10.CountsOne", spec := "countsOne", unfollowed := true, recurses := true, apart := false, narrowed := true }
def CountsOneUptoSaid : Prop := countsOneUptoRow.holds Try.pinned (OpenSpec.upto countsOneSpec)

/-- 'palimpsestlaw10.CountsFree', WHERE WHAT IT READS IS OF BULK AT MOST 1048576: true; the input reads as it did. -/
def countsFreeUptoRow : OpenClaim := { program := "ytmppolccfjfoaaa", sum := "814d82015a93a93a86201bbab63f7ccca5920603d7e325d2fb6f1544e02bf8cd", func := "palimpsest/palimpsestlaw10.CountsFree", spec := "countsFree", unfollowed := true, recurses := true, apart := false, narrowed := true }
def CountsFreeUptoSaid : Prop := countsFreeUptoRow.holds Try.pinned (OpenSpec.upto countsFreeSpec)

/-- 'palimpsestlaw10.CountsAll', WHERE WHAT IT READS IS OF BULK AT MOST 1048576: true; the input reads as it did. -/
def countsAllUptoRow : OpenClaim := { program := "ytmppolccfjfoaaa", sum := "814d82015a93a93a86201bbab63f7ccca5920603d7e325d2fb6f1544e02bf8cd", func := "palimpsest/palimpsestlaw10.CountsAll", spec := "countsAll", unfollowed := true, recurses := true, apart := false, narrowed := true }
def CountsAllUptoSaid : Prop := countsAllUptoRow.holds Try.pinned (OpenSpec.upto countsAllSpec)

/-- 'palimpsestlaw11.TablesSnaps', WHERE WHAT IT READS IS OF BULK AT MOST 1048576: true; the input reads as it did. -/
def tablesSnapsUptoRow : OpenClaim := { program := "ytmppolccfjfoaaa", sum := "814d82015a93a93a86201bbab63f7ccca5920603d7e325d2fb6f1544e02bf8cd", func := "palimpsest/palimpsestlaw11.TablesSnaps", spec := "tablesSnaps", inPlace := ["internal/bytealg.IndexByteString", "internal/bytealg.IndexString"], unfollowed := true, recurses := true, named := ["internal/bytealg.MaxLen"], apart := false, narrowed := true }
def TablesSnapsUptoSaid : Prop := tablesSnapsUptoRow.holds Try.pinned (OpenSpec.upto tablesSnapsSpec)

/-- 'palimpsestlaw11.TablesParts', WHERE WHAT IT READS IS OF BULK AT MOST 1048576: true; the input reads as it did. -/
def tablesPartsUptoRow : OpenClaim := { program := "ytmppolccfjfoaaa", sum := "814d82015a93a93a86201bbab63f7ccca5920603d7e325d2fb6f1544e02bf8cd", func := "palimpsest/palimpsestlaw11.TablesParts", spec := "tablesParts", inPlace := ["internal/bytealg.IndexByteString", "internal/bytealg.IndexString"], unfollowed := true, recurses := true, named := ["internal/bytealg.MaxLen"], apart := false, narrowed := true }
def TablesPartsUptoSaid : Prop := tablesPartsUptoRow.holds Try.pinned (OpenSpec.upto tablesPartsSpec)

/-- 'palimpsestlaw11.TablesFind', WHERE WHAT IT READS IS OF BULK AT MOST 1048576: true; the input reads as it did. -/
def tablesFindUptoRow : OpenClaim := { program := "ytmppolccfjfoaaa", sum := "814d82015a93a93a86201bbab63f7ccca5920603d7e325d2fb6f1544e02bf8cd", func := "palimpsest/palimpsestlaw11.TablesFind", spec := "tablesFind", inPlace := ["internal/bytealg.IndexByteString", "internal/bytealg.IndexString"], unfollowed := true, recurses := true, named := ["internal/bytealg.MaxLen"], apart := false, narrowed := true }
def TablesFindUptoSaid : Prop := tablesFindUptoRow.holds Try.pinned (OpenSpec.upto tablesFindSpec)

end Rows
end Go.Proofs.Ytmppolccfjfoaaa
