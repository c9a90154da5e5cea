/- The run of 'awake' to its end. No condition. -/
import Derived.Test.YtipifpppngfihaaGreatAuditNobodyK
import Derived.KernelRfl
namespace Go.Proofs.YtipifpppngfihaaGreat.auditNobody
set_option maxHeartbeats 40000000
set_option maxRecDepth 10000000
open Go.Ab Go.Proofs.YtipifpppngfihaaGreat.ma
theorem yEnd : (detA [] [] && isTrue (interp (SyB [] []) noOrc FT (fun v h => some (v, h)) z5)) = true := by kernel_rfl
end Go.Proofs.YtipifpppngfihaaGreat.auditNobody
