/- 'AuditNobody' returns true at these cases: runs by the kernel. No condition. -/
import Derived.Test.YtipifpppngfihaaGreatAuditNobodyA
import Derived.KernelRfl
namespace Go.Proofs.YtipifpppngfihaaGreat.auditNobody
set_option maxHeartbeats 40000000
open Go.Ab Go.Proofs.YtipifpppngfihaaGreat.ma
theorem all : evalT lf (.lt 0 1 .run .run) d0 = true := by kernel_rfl
end Go.Proofs.YtipifpppngfihaaGreat.auditNobody
