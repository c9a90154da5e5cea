/- 'CallCombines' returns true at these cases: a run by the kernel. No condition. -/
import Derived.Test.YtnhakkolafedhaaGreatCallCombinesA
namespace Go.Proofs.YtnhakkolafedhaaGreat.callCombines
open Go.Ab
theorem c2 : evalT lf (.md 0 4 fun _ => .run) (mdD 1 6 2 d0) = true := by kernel_rfl
end Go.Proofs.YtnhakkolafedhaaGreat.callCombines
