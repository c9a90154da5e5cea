/- 'awake' returns true; what 'HugeCuts' may be asked at: the cases. No condition. -/
import Derived.Test.YtoeplekdelhicaaGreatMaWP
import Derived.KernelRfl
namespace Go.Proofs.YtoeplekdelhicaaGreat.hugeCuts
set_option maxHeartbeats 40000000
open Go.Ab Go.Proofs.YtoeplekdelhicaaGreat.ma
noncomputable def orcM : Orc := (cloOrc cloP)
theorem orcM_nat : OrcNat orcM := (cloOrc_nat cloP)
theorem orcM_ok (σ : Nat → Int) : OrcOk Tryz.prog CX σ orcM := (madeOkP σ)
theorem awake (w : World) : Calls Tryz.prog 10 #[] w fun e w' => e = .returned (.bool true) ∧ Kept w w' :=
  law_true hyp follows orcM_nat (fun σ => orcM_ok σ) tabOk 100001 10 [] [] (by decide) .run (by kernel_rfl) #[] rfl w
theorem aw_name : (Tryz.f10.name == "runtime.NumGoroutine") = false := by kernel_rfl
theorem aw_body : ∃ c, Tryz.f10.body = some c := ⟨_, rfl⟩
theorem awOk (σ : Nat → Int) : OrcOk Tryz.prog CX σ (trueOrc 10) := by
  obtain ⟨c, hc⟩ := aw_body
  exact trueOrc_ok Tryz.func10 hc aw_name awake
noncomputable def orc : Orc := orElse orcM (trueOrc 10)
theorem orc_nat : OrcNat orc := orElse_nat orcM_nat (trueOrc_nat 10)
theorem orc_ok (σ : Nat → Int) : OrcOk Tryz.prog CX σ orc := orElse_ok (orcM_ok σ) (awOk σ)
def sh : Sh := [(false, [some .u8]), (false, [some .u8]), (false, [some .u8])]
noncomputable def lf : List Dm → Bool := leaf orc FT 100001 3 sh []
noncomputable def d0 : List Dm := (sh.flatMap (·.2)).map dom0
noncomputable def fA0 (r : Nat) : Bool := evalT lf .run (mdD 1 (8 - 0) r (mdD 0 8 0 d0))
noncomputable def fA1 (r : Nat) : Bool := evalT lf .run (mdD 1 (8 - 1) r (mdD 0 8 1 d0))
noncomputable def fA2 (r : Nat) : Bool := evalT lf .run (mdD 1 (8 - 2) r (mdD 0 8 2 d0))
noncomputable def fA3 (r : Nat) : Bool := evalT lf .run (mdD 1 (8 - 3) r (mdD 0 8 3 d0))
noncomputable def fA4 (r : Nat) : Bool := evalT lf .run (mdD 1 (8 - 4) r (mdD 0 8 4 d0))
noncomputable def fA5 (r : Nat) : Bool := evalT lf .run (mdD 1 (8 - 5) r (mdD 0 8 5 d0))
noncomputable def fA6 (r : Nat) : Bool := evalT lf .run (mdD 1 (8 - 6) r (mdD 0 8 6 d0))
noncomputable def fA7 (r : Nat) : Bool := evalT lf .run (mdD 1 (8 - 7) r (mdD 0 8 7 d0))
end Go.Proofs.YtoeplekdelhicaaGreat.hugeCuts
