/- 'QuietNobody' returns true at these cases: a run by the kernel. No condition. -/
import Derived.Test.YtnhakkolafedhaaGreatQuietNobodyA
namespace Go.Proofs.YtnhakkolafedhaaGreat.quietNobody
open Go.Ab
theorem all : evalT lf (.lt 0 0 .run .run) (d0) = true := by kernel_rfl
end Go.Proofs.YtnhakkolafedhaaGreat.quietNobody
