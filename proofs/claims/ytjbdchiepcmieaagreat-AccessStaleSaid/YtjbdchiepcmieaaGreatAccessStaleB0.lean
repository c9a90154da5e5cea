/- 'AccessStale' returns true at these cases: a run by the kernel. No condition. -/
import Derived.Test.YtjbdchiepcmieaaGreatAccessStaleA
import Derived.KernelRfl
namespace Go.Proofs.YtjbdchiepcmieaaGreat.accessStale
open Go.Ab Go.Proofs.YtjbdchiepcmieaaGreat.ma
theorem all : evalT lf (.lt 1 1 .run .run) d0 = true := by kernel_rfl
end Go.Proofs.YtjbdchiepcmieaaGreat.accessStale
