/- 'CopiesBreak' returns true at these cases: runs by the kernel. No condition. -/
import Derived.Test.YtffdgboijdbomaaGreatCopiesBreakA
import Derived.KernelRfl
namespace Go.Proofs.YtffdgboijdbomaaGreat.copiesBreak
open Go.Ab Go.Proofs.YtffdgboijdbomaaGreat.ma
theorem pA4 : fA 4 = true := by kernel_rfl
theorem pA5 : fA 5 = true := by kernel_rfl
theorem pA6 : fA 6 = true := by kernel_rfl
theorem pA7 : fA 7 = true := by kernel_rfl
end Go.Proofs.YtffdgboijdbomaaGreat.copiesBreak
