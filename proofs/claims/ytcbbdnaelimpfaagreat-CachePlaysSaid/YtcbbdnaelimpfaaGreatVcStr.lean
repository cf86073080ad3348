/- Rules for a range over a string of ASCII characters,and for arrays of bytes that are compared. -/
import Derived.Test.YtcbbdnaelimpfaaGreatVcTag
namespace Go.Vc
open Go
set_option linter.unusedSimpArgs false
set_option linter.unusedVariables false
set_option linter.unusedSectionVars false
section
variable {P:Program} {q:Bool} {K:VP} {h:Heap}

def StrIt (h:Heap) (it:Nat) (l:List UInt8) (i:Nat):Prop:=h[it]? = some (.stringIter ⟨⟨l⟩⟩ i)
def isStrB (P:Program) (t:TypeId):Bool:=match P.underlying t with|some .string=>true|_=>false
def arrB (P:Program) (t n:Nat):Bool:=match P.underlying t with
 | some (.array m e)=>(m==n)&&(match P.underlying e with|some (.int .u8)=>true|_=>false)&&(match P.info? e with|some i=>i.size==1|none=>false) && !P.eqGuardType P.depth t
 | _=>false
end
end Go.Vc
