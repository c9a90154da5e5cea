/- So many steps of the run of 'made' come to the next state. No condition. -/
import Derived.Test.YthjamfniihejcaaGreatMaSP
import Derived.KernelRfl
namespace Go.Proofs.YthjamfniihejcaaGreat.ma
open Go.Ab
theorem cP5 : script noSy noOrc FT innP [.to 159] sP4 = some sP5 := by kernel_rfl
end Go.Proofs.YthjamfniihejcaaGreat.ma
