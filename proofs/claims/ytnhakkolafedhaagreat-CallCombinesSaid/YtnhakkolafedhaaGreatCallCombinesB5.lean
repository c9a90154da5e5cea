/- 'CallCombines' returns true at these cases: a run by the kernel. No condition. -/
import Derived.Test.YtnhakkolafedhaaGreatCallCombinesA
namespace Go.Proofs.YtnhakkolafedhaaGreat.callCombines
open Go.Ab
theorem c5 : evalT lf (.md 0 7 fun _ => .run) (mdD 1 6 5 d0) = true := by kernel_rfl
end Go.Proofs.YtnhakkolafedhaaGreat.callCombines
