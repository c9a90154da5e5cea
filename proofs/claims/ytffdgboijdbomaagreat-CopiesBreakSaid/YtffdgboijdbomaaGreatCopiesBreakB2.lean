/- 'CopiesBreak' returns true at these cases: runs by the kernel. No condition. -/
import Derived.Test.YtffdgboijdbomaaGreatCopiesBreakA
import Derived.KernelRfl
namespace Go.Proofs.YtffdgboijdbomaaGreat.copiesBreak
open Go.Ab Go.Proofs.YtffdgboijdbomaaGreat.ma
theorem pA8 : fA 8 = true := by kernel_rfl
theorem pA9 : fA 9 = true := by kernel_rfl
theorem pA10 : fA 10 = true := by kernel_rfl
theorem pA11 : fA 11 = true := by kernel_rfl
end Go.Proofs.YtffdgboijdbomaaGreat.copiesBreak
