/- 'awake' returns true; what 'HugeFull' may be asked at: the cases. No condition. -/
import Derived.Test.YtoeplekdelhicaaGreatMaWP
import Derived.Test.YtoeplekdelhicaaGreatMaWQ
import Derived.KernelRfl
namespace Go.Proofs.YtoeplekdelhicaaGreat.hugeFull
set_option maxHeartbeats 40000000
open Go.Ab Go.Proofs.YtoeplekdelhicaaGreat.ma
noncomputable def orcM : Orc := (orElse (cloOrc cloP) (cloOrc cloQ))
theorem orcM_nat : OrcNat orcM := (orElse_nat (cloOrc_nat cloP) (cloOrc_nat cloQ))
theorem orcM_ok (σ : Nat → Int) : OrcOk Tryz.prog CX σ orcM := (orElse_ok (madeOkP σ) (madeOkQ σ))
theorem awake (w : World) : Calls Tryz.prog 10 #[] w fun e w' => e = .returned (.bool true) ∧ Kept w w' :=
  law_true hyp follows orcM_nat (fun σ => orcM_ok σ) tabOk 100001 10 [] [] (by decide) .run (by kernel_rfl) #[] rfl w
theorem aw_name : (Tryz.f10.name == "runtime.NumGoroutine") = false := by kernel_rfl
theorem aw_body : ∃ c, Tryz.f10.body = some c := ⟨_, rfl⟩
theorem awOk (σ : Nat → Int) : OrcOk Tryz.prog CX σ (trueOrc 10) := by
  obtain ⟨c, hc⟩ := aw_body
  exact trueOrc_ok Tryz.func10 hc aw_name awake
noncomputable def orc : Orc := orElse orcM (trueOrc 10)
theorem orc_nat : OrcNat orc := orElse_nat orcM_nat (trueOrc_nat 10)
theorem orc_ok (σ : Nat → Int) : OrcOk Tryz.prog CX σ orc := orElse_ok (orcM_ok σ) (awOk σ)
def sh : Sh := [(false, [some .u8])]
noncomputable def lf : List Dm → Bool := leaf orc FT 100001 4 sh []
noncomputable def d0 : List Dm := (sh.flatMap (·.2)).map dom0
noncomputable def fA (_ : Nat) : Bool := evalT lf .run d0
end Go.Proofs.YtoeplekdelhicaaGreat.hugeFull
