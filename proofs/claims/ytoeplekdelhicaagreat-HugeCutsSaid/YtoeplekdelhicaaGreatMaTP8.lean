/- So many steps of the run of 'made' come to the next state. No condition. -/
import Derived.Test.YtoeplekdelhicaaGreatMaSP
import Derived.KernelRfl
namespace Go.Proofs.YtoeplekdelhicaaGreat.ma
set_option maxHeartbeats 40000000
open Go.Ab
theorem cP8 : script noSy noOrc FT innP [.it 1364] sP7 = some sP8 := by kernel_rfl
end Go.Proofs.YtoeplekdelhicaaGreat.ma
