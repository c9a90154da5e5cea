/- 'awake' returns true. No condition. -/
import Derived.Test.YtipifpppngfihaaGreatAuditNobodyKc1
import Derived.Test.YtipifpppngfihaaGreatAuditNobodyKc2
import Derived.Test.YtipifpppngfihaaGreatAuditNobodyKc3
import Derived.Test.YtipifpppngfihaaGreatAuditNobodyKc4
import Derived.Test.YtipifpppngfihaaGreatAuditNobodyKc5
import Derived.Test.YtipifpppngfihaaGreatAuditNobodyKf
import Derived.KernelRfl
namespace Go.Proofs.YtipifpppngfihaaGreat.auditNobody
set_option maxHeartbeats 40000000
set_option maxRecDepth 10000000
open Go.Ab Go.Proofs.YtipifpppngfihaaGreat.ma
theorem awake (w : World) : Calls Tryz.prog 10 #[] w fun e w' => e = .returned (.bool true) ∧ Kept w w' :=
  law_true hyp follows noOrc_nat (fun _ => noOrc_ok) tabOk 100001 10 [] [] (by decide) .run (leaf_cut (q := z5) (by kernel_rfl) (fun k0 => (script_ok noOrc_nat y1).trans ((script_ok noOrc_nat y2).trans ((script_ok noOrc_nat y3).trans ((script_ok noOrc_nat y4).trans (script_ok noOrc_nat y5))))) yEnd) #[] rfl w
end Go.Proofs.YtipifpppngfihaaGreat.auditNobody
