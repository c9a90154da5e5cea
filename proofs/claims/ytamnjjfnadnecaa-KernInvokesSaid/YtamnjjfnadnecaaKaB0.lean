/- 'KernInvokes' returns true at core 0, whatever the call. No condition. -/
import Derived.Test.YtamnjjfnadnecaaKaA
namespace Go.Proofs.Ytamnjjfnadnecaa.kernInvokes
open Go.Ab
theorem core0 : evalT lf kinds (hiD 8 1 (loD 8 0 d0)) = true := by kernel_rfl
end Go.Proofs.Ytamnjjfnadnecaa.kernInvokes
