/- Counts in bytes, as bits of the number that the bytes say; and rules for single bits of bytes. -/
import Derived.Test.YtcbbdnaelimpfaaGreatVcRange
import Derived.Test.YtcbbdnaelimpfaaGreatBytes
namespace Go.Vc
open Go
set_option linter.unusedSimpArgs false
set_option linter.unusedVariables false

def cnt (l : List UInt8) (w i : Nat) : Nat := leN l / 2 ^ (i * w) % 2 ^ w
def putB (n p w x : Nat) : Nat := 2 ^ p * (2 ^ w * (n / 2 ^ (p + w)) + x % 2 ^ w) + n % 2 ^ p
def setC (l : List UInt8) (w i x : Nat) : List UInt8 := leB l.length (putB (leN l) (i * w) w x)
@[simp] theorem setC_length (l : List UInt8) (w i x : Nat) : (setC l w i x).length = l.length := by simp [setC]
section
variable {P : Program} {q : Bool} {K : Value → Heap → Prop} {h : Heap}
end
end Go.Vc
