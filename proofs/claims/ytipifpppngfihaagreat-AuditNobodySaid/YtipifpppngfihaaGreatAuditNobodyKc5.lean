/- So many steps of the run of 'awake'. No condition. -/
import Derived.Test.YtipifpppngfihaaGreatAuditNobodyK
import Derived.KernelRfl
namespace Go.Proofs.YtipifpppngfihaaGreat.auditNobody
set_option maxHeartbeats 40000000
set_option maxRecDepth 10000000
open Go.Ab Go.Proofs.YtipifpppngfihaaGreat.ma
theorem y5 : script (SyB [] []) noOrc FT innK [.it 700] z4 = some z5 := by kernel_rfl
end Go.Proofs.YtipifpppngfihaaGreat.auditNobody
