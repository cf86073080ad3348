/- Locks: the methods of a line, called through container/heap's interface. -/
import Derived.Test.YtlligpgjkmfhpaaNice
import Derived.Test.YtlligpgjkmfhpaaFacts
import Derived.Test.YtlligpgjkmfhpaaVcPtr
set_option linter.unusedVariables false
namespace Go.Proofs.Ytlligpgjkmfhpaa
open Go.Vc
variable {K : Value → Heap → Prop} {h : Heap}

theorem MPush {a : Addr} {x : Value} (H : CallsH Try.prog 108 #[.pointer (some a), x] h K ⟨⟩) : MethodH Try.prog (.iface 66 (.pointer (some a))) "Push" #[x] h K ⟨⟩ := by
  refine ⟨?_⟩
  have e : methodP Try.prog (.iface 66 (.pointer (some a))) "Push" #[x] h K = CallsH Try.prog 108 #[.pointer (some a), x] h K ⟨⟩ := by kernel_rfl
  rw [e]
  exact H
theorem MPop {a : Addr} (H : CallsH Try.prog 107 #[.pointer (some a)] h K ⟨⟩) : MethodH Try.prog (.iface 66 (.pointer (some a))) "Pop" #[] h K ⟨⟩ := by
  refine ⟨?_⟩
  have e : methodP Try.prog (.iface 66 (.pointer (some a))) "Pop" #[] h K = CallsH Try.prog 107 #[.pointer (some a)] h K ⟨⟩ := by kernel_rfl
  rw [e]
  exact H
theorem MLen {a : Addr} {v : Value} (hv : hcell h a = some v) (H : CallsH Try.prog 50 #[v] h K ⟨⟩) : MethodH Try.prog (.iface 66 (.pointer (some a))) "Len" #[] h K ⟨⟩ := by
  refine ⟨?_⟩
  have e : methodP Try.prog (.iface 66 (.pointer (some a))) "Len" #[] h K = (match hcell h a with | some v => CallsH Try.prog 50 #[v] h K ⟨⟩ | none => False) := by kernel_rfl
  rw [e, hv]
  exact H
theorem MLess {a : Addr} {v : Value} {x : Value} {y : Value} (hv : hcell h a = some v) (H : CallsH Try.prog 105 #[v, x, y] h K ⟨⟩) : MethodH Try.prog (.iface 66 (.pointer (some a))) "Less" #[x, y] h K ⟨⟩ := by
  refine ⟨?_⟩
  have e : methodP Try.prog (.iface 66 (.pointer (some a))) "Less" #[x, y] h K = (match hcell h a with | some v => CallsH Try.prog 105 #[v, x, y] h K ⟨⟩ | none => False) := by kernel_rfl
  rw [e, hv]
  exact H
theorem MSwap {a : Addr} {v : Value} {x : Value} {y : Value} (hv : hcell h a = some v) (H : CallsH Try.prog 106 #[v, x, y] h K ⟨⟩) : MethodH Try.prog (.iface 66 (.pointer (some a))) "Swap" #[x, y] h K ⟨⟩ := by
  refine ⟨?_⟩
  have e : methodP Try.prog (.iface 66 (.pointer (some a))) "Swap" #[x, y] h K = (match hcell h a with | some v => CallsH Try.prog 106 #[v, x, y] h K ⟨⟩ | none => False) := by kernel_rfl
  rw [e, hv]
  exact H
end Go.Proofs.Ytlligpgjkmfhpaa
