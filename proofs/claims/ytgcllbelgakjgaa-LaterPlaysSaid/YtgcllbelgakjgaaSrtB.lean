/- Sorting: part of an insertion. Sorting: partitions. Sorting: partition. -/
import Derived.Test.YtgcllbelgakjgaaSrtA
set_option linter.unusedSimpArgs false
set_option linter.unusedVariables false
namespace Go.Proofs.Ytgcllbelgakjgaa
open Go.Vc Go.Sort

section
variable {α : Type} [Inhabited α] {K : Value → Heap → Prop} {h0 h : Heap} {b n c : Nat} {val : α → Value} {d : Array α} {f : Value} {cm : α → α → Int}

end
end Go.Proofs.Ytgcllbelgakjgaa
set_option linter.unusedSimpArgs false
set_option linter.unusedVariables false
namespace Go.Proofs.Ytgcllbelgakjgaa
open Go.Vc Go.Sort

section
variable {α : Type} [Inhabited α] {K : Value → Heap → Prop} {h0 h : Heap} {b n c : Nat} {val : α → Value} {d : Array α} {f : Value} {cm : α → α → Int}
end
end Go.Proofs.Ytgcllbelgakjgaa
set_option linter.unusedSimpArgs false
set_option linter.unusedVariables false
namespace Go.Proofs.Ytgcllbelgakjgaa
open Go.Vc Go.Sort

section
variable {α : Type} [Inhabited α] {K : Value → Heap → Prop} {h0 h : Heap} {b n c : Nat} {val : α → Value} {d : Array α} {f : Value} {cm : α → α → Int}
end
end Go.Proofs.Ytgcllbelgakjgaa
