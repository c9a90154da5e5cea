/- 'HugeFull': so many steps of its beginning. No condition. -/
import Derived.Test.YtoeplekdelhicaaGreatHugeFullP
import Derived.KernelRfl
namespace Go.Proofs.YtoeplekdelhicaaGreat.hugeFull
set_option maxHeartbeats 40000000
set_option maxRecDepth 10000000
open Go.Ab Go.Proofs.YtoeplekdelhicaaGreat.ma
theorem g3 : script (SyB [⟨0, 255, [], []⟩] []) orc FT innL [.it 2] (q2 ) = some (q3 ) := by kernel_rfl
end Go.Proofs.YtoeplekdelhicaaGreat.hugeFull
