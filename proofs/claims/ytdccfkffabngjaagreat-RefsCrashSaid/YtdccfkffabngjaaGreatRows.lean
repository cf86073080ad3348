/-
  No cell of these rows narrows 'for every input' (looked for: loops, veiled, ifaces, maps, wideKeys, modest, calm, conditions, laid).
  DERIVED. THE GIVEN ROWS OF THIS SEAT. 3 by the template 'for every input the law returns true; each argument reads behind the call as it read before'; 0 by the template 'total and deterministic' (their statements: YtdccfkffabngjaaGreatTotals.lean).
  GIVEN WITH THE SEED: the statements are not yours to turn. If you find one false, say at which input.
  Laid BY PROGRAM, IN A SANDBOX (cutbox-rows.mjs): the forced cells as the released guide's own fill.sh prints them over the translation f1f76be2f9a13d9a… (all of the seat's roots in one cut). By AI agents, Wed Nov 11 2026. No macro, syntax, notation, axiom, sorry.
-/
import Derived.Test.YtdccfkffabngjaaGreatChecked
import GoSem.Claim
import GoSem.ClaimJoined
import GoSem.ClaimMapViews
import Derived.JoinedTies
import Derived.KernelRfl
namespace Go.Proofs.YtdccfkffabngjaaGreat
/- THE CELL 'sum', in the pinned program and in every row, IS THE sha256 OF THE DUMP (.gsa) THAT YtdccfkffabngjaaGreatProg.lean LOADS. Nothing in Lean hashes anything: it is a label: what it is worth is what the hold of that sum in a sandbox is worth. -/
noncomputable def Tryz.pinned : Pinned := { name := "ytdccfkffabngjaagreat", sum := "f1f76be2f9a13d9a57f2ddcc05d474f0ddfe58a492c47044c1c61faadfd50c53", checked := Tryz.checked }
namespace Rows
def none {H : Type} : Left H := { results := [], args := [] }

/-- 'palimpsestlaw16.RefsPlay': WHATEVER THE INPUT: true; the input reads as it did. -/
def refsPlaySpec : ChangeSpec := { name := "refsPlay", fn := fun _ => fun
  | [d1, d2] => { results := [.lit (.bool true)], args := [d1, d2] }
  | _ => none }
def refsPlayRow : OpenClaim := { program := "ytdccfkffabngjaagreat", sum := "f1f76be2f9a13d9a57f2ddcc05d474f0ddfe58a492c47044c1c61faadfd50c53", func := "palimpsest/palimpsestlaw16.RefsPlay", spec := "refsPlay", inPlace := ["internal/bytealg.IndexByte", "internal/bytealg.IndexByteString", "internal/bytealg.IndexString"], unfollowed := true, recurses := true, named := ["internal/bytealg.MaxLen"], apart := false }
def RefsPlaySaid : Prop := refsPlayRow.holds Tryz.pinned (OpenSpec.ofChange refsPlaySpec)

/-- ITS FALSE NEIGHBOUR: 'it returns false'. Refute it at one input. -/
def refsPlayWrong : ChangeSpec := { name := "refsPlay", fn := fun _ => fun
  | [d1, d2] => { results := [.lit (.bool false)], args := [d1, d2] }
  | _ => none }
def RefsPlayWrongFalsely : Prop := refsPlayRow.holds Tryz.pinned (OpenSpec.ofChange refsPlayWrong)

/-- 'palimpsestlaw16.RefsGive': WHATEVER THE INPUT: true; the input reads as it did. -/
def refsGiveSpec : ChangeSpec := { name := "refsGive", fn := fun _ => fun
  | [d] => { results := [.lit (.bool true)], args := [d] }
  | _ => none }
def refsGiveRow : OpenClaim := { program := "ytdccfkffabngjaagreat", sum := "f1f76be2f9a13d9a57f2ddcc05d474f0ddfe58a492c47044c1c61faadfd50c53", func := "palimpsest/palimpsestlaw16.RefsGive", spec := "refsGive", inPlace := ["internal/bytealg.IndexByte", "internal/bytealg.IndexByteString", "internal/bytealg.IndexString"], unfollowed := true, recurses := true, named := ["internal/bytealg.MaxLen"], apart := false }
def RefsGiveSaid : Prop := refsGiveRow.holds Tryz.pinned (OpenSpec.ofChange refsGiveSpec)

/-- ITS FALSE NEIGHBOUR: 'it returns false'. Refute it at one input. -/
def refsGiveWrong : ChangeSpec := { name := "refsGive", fn := fun _ => fun
  | [d] => { results := [.lit (.bool false)], args := [d] }
  | _ => none }
def RefsGiveWrongFalsely : Prop := refsGiveRow.holds Tryz.pinned (OpenSpec.ofChange refsGiveWrong)

/-- 'palimpsestlaw16.RefsCrash': WHATEVER THE INPUT: true; the input reads as it did. -/
def refsCrashSpec : ChangeSpec := { name := "refsCrash", fn := fun _ => fun
  | [d] => { results := [.lit (.bool true)], args := [d] }
  | _ => none }
def refsCrashRow : OpenClaim := { program := "ytdccfkffabngjaagreat", sum := "f1f76be2f9a13d9a57f2ddcc05d474f0ddfe58a492c47044c1c61faadfd50c53", func := "palimpsest/palimpsestlaw16.RefsCrash", spec := "refsCrash", inPlace := ["internal/bytealg.IndexByte", "internal/bytealg.IndexByteString", "internal/bytealg.IndexString"], unfollowed := true, recurses := true, named := ["internal/bytealg.MaxLen"], apart := false }
def RefsCrashSaid : Prop := refsCrashRow.holds Tryz.pinned (OpenSpec.ofChange refsCrashSpec)

/-- ITS FALSE NEIGHBOUR: 'it returns false'. Refute it at one input. -/
def refsCrashWrong : ChangeSpec := { name := "refsCrash", fn := fun _ => fun
  | [d] => { results := [.lit (.bool false)], args := [d] }
  | _ => none }
def RefsCrashWrongFalsely : Prop := refsCrashRow.holds Tryz.pinned (OpenSpec.ofChange refsCrashWrong)

/- THE SECOND FORM. 'bulk': how many values and letters a reading holds, each counted each time it is reached (what is shared counts as often as it is met; a slice's spare places count too). A statement '..UptoSaid' is the law's where the arguments, and the package variables that the reading takes, are together of bulk at most 1048576: NARROWER than '..Said'. Prove '..Said' where nothing that the law and all that it calls make is longer than what came in: it says more and counts as full. Else prove '..UptoSaid'. A law counts once. -/
mutual
def uptoBulk {H : Type} : DataW H → Nat
  | .lit (.string bytes) => bytes.length + 1
  | .lit _ => 1
  | .nil => 1
  | .ptr d => uptoBulk d + 1
  | .slice elems spare => uptoBulkAll elems + uptoBulkAll spare + 1
  | .agg parts => uptoBulkAll parts + 1
  | .iface _ d => uptoBulk d + 1
  | .map entries => uptoBulkEntries entries + 1
  | .held _ => 1
def uptoBulkAll {H : Type} : List (DataW H) → Nat
  | [] => 0
  | d :: r => uptoBulk d + uptoBulkAll r
def uptoBulkEntries {H : Type} : List (Lit × DataW H) → Nat
  | [] => 0
  | x :: r => uptoBulkEntry x + uptoBulkEntries r
def uptoBulkEntry {H : Type} : Lit × DataW H → Nat
  | (.string bytes, d) => bytes.length + uptoBulk d + 1
  | (_, d) => uptoBulk d + 1
 end
def uptoSmall : (H : Type) → List (DataW H) → Bool := fun _ ds => decide (uptoBulkAll ds ≤ 1048576)
def OpenSpec.upto (s : _root_.Go.ChangeSpec) : _root_.Go.OpenSpec := { _root_.Go.OpenSpec.ofChange s with cond := some uptoSmall }

/-- 'palimpsestlaw16.RefsPlay', WHERE WHAT IT READS IS OF BULK AT MOST 1048576: true; the input reads as it did. -/
def refsPlayUptoRow : OpenClaim := { program := "ytdccfkffabngjaagreat", sum := "f1f76be2f9a13d9a57f2ddcc05d474f0ddfe58a492c47044c1c61faadfd50c53", func := "palimpsest/palimpsestlaw16.RefsPlay", spec := "refsPlay", inPlace := ["internal/bytealg.IndexByte", "internal/bytealg.IndexByteString", "internal/bytealg.IndexString"], unfollowed := true, recurses := true, named := ["internal/bytealg.MaxLen"], apart := false, narrowed := true }
def RefsPlayUptoSaid : Prop := refsPlayUptoRow.holds Tryz.pinned (OpenSpec.upto refsPlaySpec)

/-- 'palimpsestlaw16.RefsGive', WHERE WHAT IT READS IS OF BULK AT MOST 1048576: true; the input reads as it did. -/
def refsGiveUptoRow : OpenClaim := { program := "ytdccfkffabngjaagreat", sum := "f1f76be2f9a13d9a57f2ddcc05d474f0ddfe58a492c47044c1c61faadfd50c53", func := "palimpsest/palimpsestlaw16.RefsGive", spec := "refsGive", inPlace := ["internal/bytealg.IndexByte", "internal/bytealg.IndexByteString", "internal/bytealg.IndexString"], unfollowed := true, recurses := true, named := ["internal/bytealg.MaxLen"], apart := false, narrowed := true }
def RefsGiveUptoSaid : Prop := refsGiveUptoRow.holds Tryz.pinned (OpenSpec.upto refsGiveSpec)

/-- 'palimpsestlaw16.RefsCrash', WHERE WHAT IT READS IS OF BULK AT MOST 1048576: true; the input reads as it did. -/
def refsCrashUptoRow : OpenClaim := { program := "ytdccfkffabngjaagreat", sum := "f1f76be2f9a13d9a57f2ddcc05d474f0ddfe58a492c47044c1c61faadfd50c53", func := "palimpsest/palimpsestlaw16.RefsCrash", spec := "refsCrash", inPlace := ["internal/bytealg.IndexByte", "internal/bytealg.IndexByteString", "internal/bytealg.IndexString"], unfollowed := true, recurses := true, named := ["internal/bytealg.MaxLen"], apart := false, narrowed := true }
def RefsCrashUptoSaid : Prop := refsCrashUptoRow.holds Tryz.pinned (OpenSpec.upto refsCrashSpec)

end Rows
end Go.Proofs.YtdccfkffabngjaaGreat
