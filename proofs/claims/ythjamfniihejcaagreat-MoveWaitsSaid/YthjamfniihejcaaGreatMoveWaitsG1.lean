/- 'MoveWaits': so many steps of its beginning. No condition. -/
import Derived.Test.YthjamfniihejcaaGreatMoveWaitsP
import Derived.KernelRfl
namespace Go.Proofs.YthjamfniihejcaaGreat.moveWaits
open Go.Ab Go.Proofs.YthjamfniihejcaaGreat.ma
theorem g1 (d0 d1 d2 : Dm) (a0 : V) : script (SyB [d0, d1, d2] []) orc FT innL [.to 4] (q0 a0) = some (q1 a0) := by kernel_rfl
end Go.Proofs.YthjamfniihejcaaGreat.moveWaits
