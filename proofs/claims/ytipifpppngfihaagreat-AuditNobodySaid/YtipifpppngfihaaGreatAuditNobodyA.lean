/- 'awake' returns true; what 'AuditNobody' may be asked at: the cases. No condition. -/
import Derived.Test.YtipifpppngfihaaGreatAuditNobodyKa
import Derived.KernelRfl
namespace Go.Proofs.YtipifpppngfihaaGreat.auditNobody
set_option maxHeartbeats 40000000
open Go.Ab Go.Proofs.YtipifpppngfihaaGreat.ma
noncomputable def orcM : Orc := noOrc
theorem orcM_nat : OrcNat orcM := noOrc_nat
theorem orcM_ok (σ : Nat → Int) : OrcOk Tryz.prog CX σ orcM := noOrc_ok
theorem aw_name : (Tryz.f10.name == "runtime.NumGoroutine") = false := by kernel_rfl
theorem aw_body : ∃ c, Tryz.f10.body = some c := ⟨_, rfl⟩
theorem awOk (σ : Nat → Int) : OrcOk Tryz.prog CX σ (trueOrc 10) := by
  obtain ⟨c, hc⟩ := aw_body
  exact trueOrc_ok Tryz.func10 hc aw_name awake
noncomputable def orc : Orc := orElse orcM (trueOrc 10)
theorem orc_nat : OrcNat orc := orElse_nat orcM_nat (trueOrc_nat 10)
theorem orc_ok (σ : Nat → Int) : OrcOk Tryz.prog CX σ orc := orElse_ok (orcM_ok σ) (awOk σ)
def sh : Sh := [(false, [none])]
noncomputable def lf : List Dm → Bool := leaf orc FT 100000 3 sh []
noncomputable def d0 : List Dm := (sh.flatMap (·.2)).map dom0
end Go.Proofs.YtipifpppngfihaaGreat.auditNobody
