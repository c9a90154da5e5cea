/- The run of 'made' to its end. No condition. -/
import Derived.Test.YtoeplekdelhicaaGreatMaSP
import Derived.KernelRfl
namespace Go.Proofs.YtoeplekdelhicaaGreat.ma
set_option maxHeartbeats 40000000
open Go.Ab
theorem finP : (match interp noSy noOrc FT (fun v h => some (v, h)) sP8 with | some (v, h) => chkC cloP v h | none => false) = true := by kernel_rfl
theorem beginsP : ready noOrc FT 6 aP (.mk (Pos.of 8) .nil) = true := by kernel_rfl
end Go.Proofs.YtoeplekdelhicaaGreat.ma
