/- 'awake' returns true; what 'MoveFull' may be asked at: the cases. No condition. -/
import Derived.Test.YthjamfniihejcaaGreatMaWP
import Derived.Test.YthjamfniihejcaaGreatMaWQ
import Derived.KernelRfl
namespace Go.Proofs.YthjamfniihejcaaGreat.moveFull
open Go.Ab Go.Proofs.YthjamfniihejcaaGreat.ma
noncomputable def orcM : Orc := (orElse (cloOrc cloP) (cloOrc cloQ))
theorem orcM_nat : OrcNat orcM := (orElse_nat (cloOrc_nat cloP) (cloOrc_nat cloQ))
theorem orcM_ok (σ : Nat → Int) : OrcOk Tryz.prog CX σ orcM := (orElse_ok (madeOkP σ) (madeOkQ σ))
theorem awake (w : World) : Calls Tryz.prog 15 #[] w fun e w' => e = .returned (.bool true) ∧ Kept w w' :=
  law_true hyp follows orcM_nat (fun σ => orcM_ok σ) tabOk 100000 15 [] [] (by decide) .run (by kernel_rfl) #[] rfl w
theorem aw_name : (Tryz.f15.name == "runtime.NumGoroutine") = false := by kernel_rfl
theorem aw_body : ∃ c, Tryz.f15.body = some c := ⟨_, rfl⟩
theorem awOk (σ : Nat → Int) : OrcOk Tryz.prog CX σ (trueOrc 15) := by
  obtain ⟨c, hc⟩ := aw_body
  exact trueOrc_ok Tryz.func15 hc aw_name awake
noncomputable def orc : Orc := orElse orcM (trueOrc 15)
theorem orc_nat : OrcNat orc := orElse_nat orcM_nat (trueOrc_nat 15)
theorem orc_ok (σ : Nat → Int) : OrcOk Tryz.prog CX σ orc := orElse_ok (orcM_ok σ) (awOk σ)
def sh : Sh := [(false, [some .u8])]
noncomputable def lf : List Dm → Bool := leaf orc FT 100000 3 sh []
noncomputable def d0 : List Dm := (sh.flatMap (·.2)).map dom0
noncomputable def fA (r : Nat) : Bool := evalT lf .run (mdD 0 16 r d0)
end Go.Proofs.YthjamfniihejcaaGreat.moveFull
