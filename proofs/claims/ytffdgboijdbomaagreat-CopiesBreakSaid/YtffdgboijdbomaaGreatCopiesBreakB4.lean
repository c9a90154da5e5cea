/- 'CopiesBreak' returns true at these cases: runs by the kernel. No condition. -/
import Derived.Test.YtffdgboijdbomaaGreatCopiesBreakA
import Derived.KernelRfl
namespace Go.Proofs.YtffdgboijdbomaaGreat.copiesBreak
open Go.Ab Go.Proofs.YtffdgboijdbomaaGreat.ma
theorem pB0 : fB 0 = true := by kernel_rfl
theorem pB1 : fB 1 = true := by kernel_rfl
theorem pB2 : fB 2 = true := by kernel_rfl
theorem pB3 : fB 3 = true := by kernel_rfl
end Go.Proofs.YtffdgboijdbomaaGreat.copiesBreak
