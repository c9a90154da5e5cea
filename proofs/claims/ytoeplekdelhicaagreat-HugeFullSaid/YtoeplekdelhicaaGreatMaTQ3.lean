/- So many steps of the run of 'made' come to the next state. No condition. -/
import Derived.Test.YtoeplekdelhicaaGreatMaSQ
import Derived.KernelRfl
namespace Go.Proofs.YtoeplekdelhicaaGreat.ma
set_option maxHeartbeats 40000000
open Go.Ab
theorem cQ3 : script noSy noOrc FT innQ [.it 1366] sQ2 = some sQ3 := by kernel_rfl
end Go.Proofs.YtoeplekdelhicaaGreat.ma
