/- The run of 'made' to its end. No condition. -/
import Derived.Test.YtoeplekdelhicaaGreatMaSQ
import Derived.KernelRfl
namespace Go.Proofs.YtoeplekdelhicaaGreat.ma
set_option maxHeartbeats 40000000
open Go.Ab
theorem finQ : (match interp noSy noOrc FT (fun v h => some (v, h)) sQ8 with | some (v, h) => chkC cloQ v h | none => false) = true := by kernel_rfl
theorem beginsQ : ready noOrc FT 6 aQ (.mk (Pos.of 8) .nil) = true := by kernel_rfl
end Go.Proofs.YtoeplekdelhicaaGreat.ma
