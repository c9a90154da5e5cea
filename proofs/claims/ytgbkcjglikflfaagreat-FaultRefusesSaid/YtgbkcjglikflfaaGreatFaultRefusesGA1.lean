/- 'FaultRefuses': so many steps of its beginning. No condition. -/
import Derived.Test.YtgbkcjglikflfaaGreatFaultRefusesPA
import Derived.KernelRfl
namespace Go.Proofs.YtgbkcjglikflfaaGreat.faultRefuses
set_option maxHeartbeats 40000000
set_option maxRecDepth 10000000
open Go.Ab Go.Proofs.YtgbkcjglikflfaaGreat.ma
theorem gA1 (d1 d2 d3 : Dm) (a0 : V) : script (SyB [⟨0, 255, [], [(.ofNat 3, .ofNat 0)]⟩, d1, d2, d3] [(true, 1264284498579831539109888)]) orc FT innAL [.to 104] (qA0 a0) = some (qA1 a0) := by kernel_rfl
theorem gA5 (d1 d2 d3 : Dm) (a0 : V) : script (SyB [⟨0, 255, [], [(.ofNat 3, .ofNat 0)]⟩, d1, d2, d3] [(true, 1264284498579831539109888)]) orc FT innAL [.to 104] (qA4 a0) = some (qA5 a0) := by kernel_rfl
theorem gA9 (d1 d2 d3 : Dm) (a0 : V) : script (SyB [⟨0, 255, [], [(.ofNat 3, .ofNat 0)]⟩, d1, d2, d3] [(true, 1264284498579831539109888)]) orc FT innAL [.bk 3] (qA8 a0) = some (qA9 a0) := by kernel_rfl
end Go.Proofs.YtgbkcjglikflfaaGreat.faultRefuses
