/- 'awake' returns true; what 'CopiesBreak' may be asked at: the cases. No condition. -/
import Derived.Test.YtffdgboijdbomaaGreatMaWP
import Derived.KernelRfl
namespace Go.Proofs.YtffdgboijdbomaaGreat.copiesBreak
open Go.Ab Go.Proofs.YtffdgboijdbomaaGreat.ma
noncomputable def orcM : Orc := (cloOrc cloP)
theorem orcM_nat : OrcNat orcM := (cloOrc_nat cloP)
theorem orcM_ok (σ : Nat → Int) : OrcOk Tryz.prog CX σ orcM := (madeOkP σ)
theorem awake (w : World) : Calls Tryz.prog 12 #[] w fun e w' => e = .returned (.bool true) ∧ Kept w w' :=
  law_true hyp follows orcM_nat (fun σ => orcM_ok σ) tabOk 100000 12 [] [] (by decide) .run (by kernel_rfl) #[] rfl w
theorem aw_name : (Tryz.f12.name == "runtime.NumGoroutine") = false := by kernel_rfl
theorem aw_body : ∃ c, Tryz.f12.body = some c := ⟨_, rfl⟩
theorem awOk (σ : Nat → Int) : OrcOk Tryz.prog CX σ (trueOrc 12) := by
  obtain ⟨c, hc⟩ := aw_body
  exact trueOrc_ok Tryz.func12 hc aw_name awake
noncomputable def orc : Orc := orElse orcM (trueOrc 12)
theorem orc_nat : OrcNat orc := orElse_nat orcM_nat (trueOrc_nat 12)
theorem orc_ok (σ : Nat → Int) : OrcOk Tryz.prog CX σ orc := orElse_ok (orcM_ok σ) (awOk σ)
def sh : Sh := [(false, [some .u8]), (false, [some .u8]), (false, [none])]
noncomputable def lf : List Dm → Bool := leaf orc FT 100000 4 sh []
noncomputable def d0 : List Dm := (sh.flatMap (·.2)).map dom0
noncomputable def fA (r : Nat) : Bool := evalT lf .run (mdD 0 16 r (hiD 2 1 d0))
noncomputable def fB (r : Nat) : Bool := evalT lf .run (mdD 0 16 r (loD 2 1 d0))
end Go.Proofs.YtffdgboijdbomaaGreat.copiesBreak
