/- So many steps of the run of 'made' come to the next state. No condition. -/
import Derived.Test.YtffdgboijdbomaaGreatMaSP
import Derived.KernelRfl
namespace Go.Proofs.YtffdgboijdbomaaGreat.ma
open Go.Ab
theorem cP5 : script noSy noOrc FT innP [.to 160] sP4 = some sP5 := by kernel_rfl
end Go.Proofs.YtffdgboijdbomaaGreat.ma
