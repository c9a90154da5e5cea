/- 'HugeCuts': so many steps of its beginning. No condition. -/
import Derived.Test.YtoeplekdelhicaaGreatHugeCutsP
import Derived.KernelRfl
namespace Go.Proofs.YtoeplekdelhicaaGreat.hugeCuts
set_option maxHeartbeats 40000000
set_option maxRecDepth 10000000
open Go.Ab Go.Proofs.YtoeplekdelhicaaGreat.ma
theorem g2 (d0 d1 : Dm) (a0 a1 a2 a3 a4 : V) : script (SyB [d0, d1, ⟨0, 255, [], []⟩] []) orc FT innL [.it 3] (q1 a0 a1 a2 a3 a4) = some (q2 a0 a1 a2 a3 a4) := by kernel_rfl
end Go.Proofs.YtoeplekdelhicaaGreat.hugeCuts
