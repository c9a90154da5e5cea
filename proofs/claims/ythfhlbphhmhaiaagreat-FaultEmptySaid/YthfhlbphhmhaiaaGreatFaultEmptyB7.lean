/- 'FaultEmpty' returns true at these cases: runs by the kernel. No condition. -/
import Derived.Test.YthfhlbphhmhaiaaGreatFaultEmptyA
import Derived.KernelRfl
namespace Go.Proofs.YthfhlbphhmhaiaaGreat.faultEmpty
open Go.Ab Go.Proofs.YthfhlbphhmhaiaaGreat.ma
theorem pB12 : fB 12 = true := by kernel_rfl
theorem pB13 : fB 13 = true := by kernel_rfl
theorem pB14 : fB 14 = true := by kernel_rfl
theorem pB15 : fB 15 = true := by kernel_rfl
end Go.Proofs.YthfhlbphhmhaiaaGreat.faultEmpty
