/- 'awake' returns true; what 'FaultRefuses' may be asked at: the cases. No condition. -/
import Derived.Test.YtgbkcjglikflfaaGreatMaWP
import Derived.KernelRfl
namespace Go.Proofs.YtgbkcjglikflfaaGreat.faultRefuses
set_option maxHeartbeats 40000000
open Go.Ab Go.Proofs.YtgbkcjglikflfaaGreat.ma
noncomputable def orcM : Orc := (cloOrc cloP)
theorem orcM_nat : OrcNat orcM := (cloOrc_nat cloP)
theorem orcM_ok (σ : Nat → Int) : OrcOk Tryz.prog CX σ orcM := (madeOkP σ)
theorem awake (w : World) : Calls Tryz.prog 8 #[] w fun e w' => e = .returned (.bool true) ∧ Kept w w' :=
  law_true hyp follows orcM_nat (fun σ => orcM_ok σ) tabOk 100001 8 [] [] (by decide) .run (by kernel_rfl) #[] rfl w
theorem aw_name : (Tryz.f8.name == "runtime.NumGoroutine") = false := by kernel_rfl
theorem aw_body : ∃ c, Tryz.f8.body = some c := ⟨_, rfl⟩
theorem awOk (σ : Nat → Int) : OrcOk Tryz.prog CX σ (trueOrc 8) := by
  obtain ⟨c, hc⟩ := aw_body
  exact trueOrc_ok Tryz.func8 hc aw_name awake
noncomputable def orc : Orc := orElse orcM (trueOrc 8)
theorem orc_nat : OrcNat orc := orElse_nat orcM_nat (trueOrc_nat 8)
theorem orc_ok (σ : Nat → Int) : OrcOk Tryz.prog CX σ orc := orElse_ok (orcM_ok σ) (awOk σ)
def sh : Sh := [(false, [some .u8]), (false, [some .u16]), (false, [none])]
noncomputable def lf : List Dm → Bool := leaf orc FT 100001 3 sh [(true, 1264284498579831539109888)]
noncomputable def d0 : List Dm := domE sh [(true, 1264284498579831539109888)]
end Go.Proofs.YtgbkcjglikflfaaGreat.faultRefuses
