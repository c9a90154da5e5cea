/- 'FaultRefuses': so many steps of its beginning. No condition. -/
import Derived.Test.YtgbkcjglikflfaaGreatFaultRefusesPA
import Derived.KernelRfl
namespace Go.Proofs.YtgbkcjglikflfaaGreat.faultRefuses
set_option maxHeartbeats 40000000
set_option maxRecDepth 10000000
open Go.Ab Go.Proofs.YtgbkcjglikflfaaGreat.ma
theorem gA7 (d1 d2 d3 : Dm) (a0 : V) : script (SyB [⟨0, 255, [], [(.ofNat 3, .ofNat 0)]⟩, d1, d2, d3] [(true, 1264284498579831539109888)]) orc FT innAL [.it 1366] (qA6 a0) = some (qA7 a0) := by kernel_rfl
end Go.Proofs.YtgbkcjglikflfaaGreat.faultRefuses
