/-
  No cell of these rows narrows 'for every input' (looked for: loops, veiled, ifaces, maps, wideKeys, modest, calm, conditions, laid).
  DERIVED. THE GIVEN ROWS OF THIS SEAT. 4 by the template 'for every input the law returns true; each argument reads behind the call as it read before'; 0 by the template 'total and deterministic' (their statements: YtcbbdnaelimpfaaGreatTotals.lean).
  GIVEN WITH THE SEED: the statements are not yours to turn. If you find one false, say at which input.
  Laid BY PROGRAM, IN A SANDBOX (cutbox-rows.mjs): the forced cells as the released guide's own fill.sh prints them over the translation 919c925fa1dc2445… (all of the seat's roots in one cut). By AI agents, Wed Nov 11 2026. No macro, syntax, notation, axiom, sorry.
-/
import Derived.Test.YtcbbdnaelimpfaaGreatChecked
import GoSem.Claim
import GoSem.ClaimJoined
import GoSem.ClaimMapViews
import Derived.JoinedTies
import Derived.KernelRfl
namespace Go.Proofs.YtcbbdnaelimpfaaGreat
/- THE CELL 'sum', in the pinned program and in every row, IS THE sha256 OF THE DUMP (.gsa) THAT YtcbbdnaelimpfaaGreatProg.lean LOADS. Nothing in Lean hashes anything: it is a label: what it is worth is what the hold of that sum in a sandbox is worth. -/
noncomputable def Tryz.pinned : Pinned := { name := "ytcbbdnaelimpfaagreat", sum := "919c925fa1dc244545a25eeef325cc6e47c45e1caf7a6ea3257987a76aab2e37", checked := Tryz.checked }
namespace Rows
def none {H : Type} : Left H := { results := [], args := [] }

/-- 'palimpsestlaw14.CachePlain': WHATEVER THE INPUT: true; the input reads as it did. -/
def cachePlainSpec : ChangeSpec := { name := "cachePlain", fn := fun _ => fun
  | [d] => { results := [.lit (.bool true)], args := [d] }
  | _ => none }
def cachePlainRow : OpenClaim := { program := "ytcbbdnaelimpfaagreat", sum := "919c925fa1dc244545a25eeef325cc6e47c45e1caf7a6ea3257987a76aab2e37", func := "palimpsest/palimpsestlaw14.CachePlain", spec := "cachePlain", inPlace := ["internal/bytealg.IndexByte"], unfollowed := true, recurses := true, apart := false }
def CachePlainSaid : Prop := cachePlainRow.holds Tryz.pinned (OpenSpec.ofChange cachePlainSpec)

/-- ITS FALSE NEIGHBOUR: 'it returns false'. Refute it at one input. -/
def cachePlainWrong : ChangeSpec := { name := "cachePlain", fn := fun _ => fun
  | [d] => { results := [.lit (.bool false)], args := [d] }
  | _ => none }
def CachePlainWrongFalsely : Prop := cachePlainRow.holds Tryz.pinned (OpenSpec.ofChange cachePlainWrong)

/-- 'palimpsestlaw14.CacheOrder': WHATEVER THE INPUT: true; the input reads as it did. -/
def cacheOrderSpec : ChangeSpec := { name := "cacheOrder", fn := fun _ => fun
  | [d] => { results := [.lit (.bool true)], args := [d] }
  | _ => none }
def cacheOrderRow : OpenClaim := { program := "ytcbbdnaelimpfaagreat", sum := "919c925fa1dc244545a25eeef325cc6e47c45e1caf7a6ea3257987a76aab2e37", func := "palimpsest/palimpsestlaw14.CacheOrder", spec := "cacheOrder", inPlace := ["internal/bytealg.IndexByte"], unfollowed := true, recurses := true, apart := false }
def CacheOrderSaid : Prop := cacheOrderRow.holds Tryz.pinned (OpenSpec.ofChange cacheOrderSpec)

/-- ITS FALSE NEIGHBOUR: 'it returns false'. Refute it at one input. -/
def cacheOrderWrong : ChangeSpec := { name := "cacheOrder", fn := fun _ => fun
  | [d] => { results := [.lit (.bool false)], args := [d] }
  | _ => none }
def CacheOrderWrongFalsely : Prop := cacheOrderRow.holds Tryz.pinned (OpenSpec.ofChange cacheOrderWrong)

/-- 'palimpsestlaw14.CacheStates': WHATEVER THE INPUT: true; the input reads as it did. -/
def cacheStatesSpec : ChangeSpec := { name := "cacheStates", fn := fun _ => fun
  | [d1, d2, d3] => { results := [.lit (.bool true)], args := [d1, d2, d3] }
  | _ => none }
def cacheStatesRow : OpenClaim := { program := "ytcbbdnaelimpfaagreat", sum := "919c925fa1dc244545a25eeef325cc6e47c45e1caf7a6ea3257987a76aab2e37", func := "palimpsest/palimpsestlaw14.CacheStates", spec := "cacheStates", inPlace := ["internal/bytealg.IndexByte"], unfollowed := true, recurses := true, apart := false }
def CacheStatesSaid : Prop := cacheStatesRow.holds Tryz.pinned (OpenSpec.ofChange cacheStatesSpec)

/-- ITS FALSE NEIGHBOUR: 'it returns false'. Refute it at one input. -/
def cacheStatesWrong : ChangeSpec := { name := "cacheStates", fn := fun _ => fun
  | [d1, d2, d3] => { results := [.lit (.bool false)], args := [d1, d2, d3] }
  | _ => none }
def CacheStatesWrongFalsely : Prop := cacheStatesRow.holds Tryz.pinned (OpenSpec.ofChange cacheStatesWrong)

/-- 'palimpsestlaw14.CachePlays': WHATEVER THE INPUT: true; the input reads as it did. -/
def cachePlaysSpec : ChangeSpec := { name := "cachePlays", fn := fun _ => fun
  | [d] => { results := [.lit (.bool true)], args := [d] }
  | _ => none }
def cachePlaysRow : OpenClaim := { program := "ytcbbdnaelimpfaagreat", sum := "919c925fa1dc244545a25eeef325cc6e47c45e1caf7a6ea3257987a76aab2e37", func := "palimpsest/palimpsestlaw14.CachePlays", spec := "cachePlays", inPlace := ["internal/bytealg.IndexByte"], unfollowed := true, recurses := true, apart := false }
def CachePlaysSaid : Prop := cachePlaysRow.holds Tryz.pinned (OpenSpec.ofChange cachePlaysSpec)

/-- ITS FALSE NEIGHBOUR: 'it returns false'. Refute it at one input. -/
def cachePlaysWrong : ChangeSpec := { name := "cachePlays", fn := fun _ => fun
  | [d] => { results := [.lit (.bool false)], args := [d] }
  | _ => none }
def CachePlaysWrongFalsely : Prop := cachePlaysRow.holds Tryz.pinned (OpenSpec.ofChange cachePlaysWrong)

/- THE SECOND FORM. 'bulk': how many values and letters a reading holds, each counted each time it is reached (what is shared counts as often as it is met; a slice's spare places count too). A statement '..UptoSaid' is the law's where the arguments, and the package variables that the reading takes, are together of bulk at most 1048576: NARROWER than '..Said'. Prove '..Said' where nothing that the law and all that it calls make is longer than what came in: it says more and counts as full. Else prove '..UptoSaid'. A law counts once. -/
mutual
def uptoBulk {H : Type} : DataW H → Nat
  | .lit (.string bytes) => bytes.length + 1
  | .lit _ => 1
  | .nil => 1
  | .ptr d => uptoBulk d + 1
  | .slice elems spare => uptoBulkAll elems + uptoBulkAll spare + 1
  | .agg parts => uptoBulkAll parts + 1
  | .iface _ d => uptoBulk d + 1
  | .map entries => uptoBulkEntries entries + 1
  | .held _ => 1
def uptoBulkAll {H : Type} : List (DataW H) → Nat
  | [] => 0
  | d :: r => uptoBulk d + uptoBulkAll r
def uptoBulkEntries {H : Type} : List (Lit × DataW H) → Nat
  | [] => 0
  | x :: r => uptoBulkEntry x + uptoBulkEntries r
def uptoBulkEntry {H : Type} : Lit × DataW H → Nat
  | (.string bytes, d) => bytes.length + uptoBulk d + 1
  | (_, d) => uptoBulk d + 1
 end
def uptoSmall : (H : Type) → List (DataW H) → Bool := fun _ ds => decide (uptoBulkAll ds ≤ 1048576)
def OpenSpec.upto (s : _root_.Go.ChangeSpec) : _root_.Go.OpenSpec := { _root_.Go.OpenSpec.ofChange s with cond := some uptoSmall }

/-- 'palimpsestlaw14.CachePlain', WHERE WHAT IT READS IS OF BULK AT MOST 1048576: true; the input reads as it did. -/
def cachePlainUptoRow : OpenClaim := { program := "ytcbbdnaelimpfaagreat", sum := "919c925fa1dc244545a25eeef325cc6e47c45e1caf7a6ea3257987a76aab2e37", func := "palimpsest/palimpsestlaw14.CachePlain", spec := "cachePlain", inPlace := ["internal/bytealg.IndexByte"], unfollowed := true, recurses := true, apart := false, narrowed := true }
def CachePlainUptoSaid : Prop := cachePlainUptoRow.holds Tryz.pinned (OpenSpec.upto cachePlainSpec)

/-- 'palimpsestlaw14.CacheOrder', WHERE WHAT IT READS IS OF BULK AT MOST 1048576: true; the input reads as it did. -/
def cacheOrderUptoRow : OpenClaim := { program := "ytcbbdnaelimpfaagreat", sum := "919c925fa1dc244545a25eeef325cc6e47c45e1caf7a6ea3257987a76aab2e37", func := "palimpsest/palimpsestlaw14.CacheOrder", spec := "cacheOrder", inPlace := ["internal/bytealg.IndexByte"], unfollowed := true, recurses := true, apart := false, narrowed := true }
def CacheOrderUptoSaid : Prop := cacheOrderUptoRow.holds Tryz.pinned (OpenSpec.upto cacheOrderSpec)

/-- 'palimpsestlaw14.CacheStates', WHERE WHAT IT READS IS OF BULK AT MOST 1048576: true; the input reads as it did. -/
def cacheStatesUptoRow : OpenClaim := { program := "ytcbbdnaelimpfaagreat", sum := "919c925fa1dc244545a25eeef325cc6e47c45e1caf7a6ea3257987a76aab2e37", func := "palimpsest/palimpsestlaw14.CacheStates", spec := "cacheStates", inPlace := ["internal/bytealg.IndexByte"], unfollowed := true, recurses := true, apart := false, narrowed := true }
def CacheStatesUptoSaid : Prop := cacheStatesUptoRow.holds Tryz.pinned (OpenSpec.upto cacheStatesSpec)

/-- 'palimpsestlaw14.CachePlays', WHERE WHAT IT READS IS OF BULK AT MOST 1048576: true; the input reads as it did. -/
def cachePlaysUptoRow : OpenClaim := { program := "ytcbbdnaelimpfaagreat", sum := "919c925fa1dc244545a25eeef325cc6e47c45e1caf7a6ea3257987a76aab2e37", func := "palimpsest/palimpsestlaw14.CachePlays", spec := "cachePlays", inPlace := ["internal/bytealg.IndexByte"], unfollowed := true, recurses := true, apart := false, narrowed := true }
def CachePlaysUptoSaid : Prop := cachePlaysUptoRow.holds Tryz.pinned (OpenSpec.upto cachePlaysSpec)

end Rows
end Go.Proofs.YtcbbdnaelimpfaaGreat
