/- 'CallCombines' returns true at these cases: a run by the kernel. No condition. -/
import Derived.Test.YtnhakkolafedhaaGreatCallCombinesA
namespace Go.Proofs.YtnhakkolafedhaaGreat.callCombines
open Go.Ab
theorem c0 : evalT lf (.md 0 2 fun _ => .run) (mdD 1 6 0 d0) = true := by kernel_rfl
end Go.Proofs.YtnhakkolafedhaaGreat.callCombines
