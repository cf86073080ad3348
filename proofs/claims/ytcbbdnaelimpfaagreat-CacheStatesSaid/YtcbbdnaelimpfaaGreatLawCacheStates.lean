/- What is proved: the law palimpsestlaw14.CacheStates returns true for every input, and its arguments read as they did. No conditions. -/
import Derived.Test.YtcbbdnaelimpfaaGreatRows
import Derived.Test.YtcbbdnaelimpfaaGreatCacC
import Derived.Test.YtcbbdnaelimpfaaGreatOpen
import Derived.Test.YtcbbdnaelimpfaaGreatClose
set_option linter.unusedSimpArgs false
set_option linter.unusedVariables false
namespace Go.Proofs.YtcbbdnaelimpfaaGreat
open Go.Vc

end Go.Proofs.YtcbbdnaelimpfaaGreat
namespace Go.Proofs.YtcbbdnaelimpfaaGreat.cacheStates
open Go.ChangeShapes Go.WideShapes Go.ChangeAt Go.RowKit Go.Joins Go.Vc

theorem own : ownKnob Tryz.prog.godebug = none := by kernel_rfl
theorem laidOut : laidOutB Tryz.prog = true := by kernel_rfl

end Go.Proofs.YtcbbdnaelimpfaaGreat.cacheStates
