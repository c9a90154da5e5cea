/- 'FaultEmpty' returns true at these cases: runs by the kernel. No condition. -/
import Derived.Test.YthfhlbphhmhaiaaGreatFaultEmptyA
import Derived.KernelRfl
namespace Go.Proofs.YthfhlbphhmhaiaaGreat.faultEmpty
open Go.Ab Go.Proofs.YthfhlbphhmhaiaaGreat.ma
theorem pB4 : fB 4 = true := by kernel_rfl
theorem pB5 : fB 5 = true := by kernel_rfl
theorem pB6 : fB 6 = true := by kernel_rfl
theorem pB7 : fB 7 = true := by kernel_rfl
end Go.Proofs.YthfhlbphhmhaiaaGreat.faultEmpty
