/- So many steps of the run of 'made' come to the next state. No condition. -/
import Derived.Test.YthjamfniihejcaaGreatMaSQ
import Derived.KernelRfl
namespace Go.Proofs.YthjamfniihejcaaGreat.ma
open Go.Ab
theorem cQ5 : script noSy noOrc FT innQ [.to 159] sQ4 = some sQ5 := by kernel_rfl
end Go.Proofs.YthjamfniihejcaaGreat.ma
