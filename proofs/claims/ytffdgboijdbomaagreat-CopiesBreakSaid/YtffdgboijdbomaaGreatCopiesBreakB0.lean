/- 'CopiesBreak' returns true at these cases: runs by the kernel. No condition. -/
import Derived.Test.YtffdgboijdbomaaGreatCopiesBreakA
import Derived.KernelRfl
namespace Go.Proofs.YtffdgboijdbomaaGreat.copiesBreak
open Go.Ab Go.Proofs.YtffdgboijdbomaaGreat.ma
theorem pA0 : fA 0 = true := by kernel_rfl
theorem pA1 : fA 1 = true := by kernel_rfl
theorem pA2 : fA 2 = true := by kernel_rfl
theorem pA3 : fA 3 = true := by kernel_rfl
end Go.Proofs.YtffdgboijdbomaaGreat.copiesBreak
