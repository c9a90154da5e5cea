/- So many steps of the run of 'awake'. No condition. -/
import Derived.Test.YtipifpppngfihaaGreatAuditNobodyK
import Derived.KernelRfl
namespace Go.Proofs.YtipifpppngfihaaGreat.auditNobody
set_option maxHeartbeats 40000000
set_option maxRecDepth 10000000
open Go.Ab Go.Proofs.YtipifpppngfihaaGreat.ma
theorem y4 : script (SyB [] []) noOrc FT innK [.it 1024] z3 = some z4 := by kernel_rfl
end Go.Proofs.YtipifpppngfihaaGreat.auditNobody
