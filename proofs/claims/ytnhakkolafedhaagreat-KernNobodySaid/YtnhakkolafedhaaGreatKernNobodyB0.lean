/- 'KernNobody' returns true at these cases: a run by the kernel. No condition. -/
import Derived.Test.YtnhakkolafedhaaGreatKernNobodyA
namespace Go.Proofs.YtnhakkolafedhaaGreat.kernNobody
open Go.Ab
theorem all0 : evalT lf (xx) (hiD 25 1 d0) = true := by kernel_rfl
end Go.Proofs.YtnhakkolafedhaaGreat.kernNobody
