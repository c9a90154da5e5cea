/- 'AccessSteps' returns true at these cases: a run by the kernel. No condition. -/
import Derived.Test.YtjbdchiepcmieaaGreatAccessStepsA
import Derived.KernelRfl
namespace Go.Proofs.YtjbdchiepcmieaaGreat.accessSteps
open Go.Ab Go.Proofs.YtjbdchiepcmieaaGreat.ma
theorem pB2 : allN (fun r => fB (8 * 2 + r)) 8 = true := by kernel_rfl
end Go.Proofs.YtjbdchiepcmieaaGreat.accessSteps
