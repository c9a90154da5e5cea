/- 'CopiesBreak' returns true at these cases: runs by the kernel. No condition. -/
import Derived.Test.YtffdgboijdbomaaGreatCopiesBreakA
import Derived.KernelRfl
namespace Go.Proofs.YtffdgboijdbomaaGreat.copiesBreak
open Go.Ab Go.Proofs.YtffdgboijdbomaaGreat.ma
theorem pB4 : fB 4 = true := by kernel_rfl
theorem pB5 : fB 5 = true := by kernel_rfl
theorem pB6 : fB 6 = true := by kernel_rfl
theorem pB7 : fB 7 = true := by kernel_rfl
end Go.Proofs.YtffdgboijdbomaaGreat.copiesBreak
