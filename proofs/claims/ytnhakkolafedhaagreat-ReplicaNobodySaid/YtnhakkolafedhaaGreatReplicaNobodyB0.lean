/- 'ReplicaNobody' returns true at these cases: a run by the kernel. No condition. -/
import Derived.Test.YtnhakkolafedhaaGreatReplicaNobodyA
namespace Go.Proofs.YtnhakkolafedhaaGreat.replicaNobody
open Go.Ab
theorem all : evalT lf (.run) (d0) = true := by kernel_rfl
end Go.Proofs.YtnhakkolafedhaaGreat.replicaNobody
