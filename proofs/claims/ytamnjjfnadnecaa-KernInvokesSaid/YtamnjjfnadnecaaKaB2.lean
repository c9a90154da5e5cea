/- 'KernInvokes' returns true at core 2, whatever the call. No condition. -/
import Derived.Test.YtamnjjfnadnecaaKaA
namespace Go.Proofs.Ytamnjjfnadnecaa.kernInvokes
open Go.Ab
theorem core2 : evalT lf kinds (hiD 8 3 (loD 8 2 (loD 8 1 (loD 8 0 d0)))) = true := by kernel_rfl
end Go.Proofs.Ytamnjjfnadnecaa.kernInvokes
