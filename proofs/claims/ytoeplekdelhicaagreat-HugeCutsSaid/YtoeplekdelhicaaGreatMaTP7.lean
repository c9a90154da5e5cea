/- So many steps of the run of 'made' come to the next state. No condition. -/
import Derived.Test.YtoeplekdelhicaaGreatMaSP
import Derived.KernelRfl
namespace Go.Proofs.YtoeplekdelhicaaGreat.ma
set_option maxHeartbeats 40000000
open Go.Ab
theorem cP7 : script noSy noOrc FT innP [.it 1366] sP6 = some sP7 := by kernel_rfl
end Go.Proofs.YtoeplekdelhicaaGreat.ma
