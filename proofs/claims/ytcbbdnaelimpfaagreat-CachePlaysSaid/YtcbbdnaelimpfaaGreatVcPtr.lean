/- Pointers compared. -/
import Derived.Test.YtcbbdnaelimpfaaGreatVcMapR
namespace Go.Vc
open Go
set_option linter.unusedSimpArgs false
set_option linter.unusedVariables false
section
variable {P:Program} {K:VP} {h:Heap}

def Loose (h:Heap) (b:Nat):Prop:=∃arr e,h[b]? = some (.cells arr e)
def ptrT (P:Program) (t:TypeId):Bool:=match P.underlying t with
 | some (.pointer e)=>match P.info? e with
  | some i => !(Nat.beq i.size 0)
  | none=>false
 | _=>false
end
end Go.Vc
