/- So many steps of the run of 'made' come to the next state. No condition. -/
import Derived.Test.YtjbdchiepcmieaaGreatMaS
import Derived.KernelRfl
namespace Go.Proofs.YtjbdchiepcmieaaGreat.ma
open Go.Ab
theorem cP4 : script noSy noOrc FT innP [.to 173] sP3 = some sP4 := by kernel_rfl
end Go.Proofs.YtjbdchiepcmieaaGreat.ma
