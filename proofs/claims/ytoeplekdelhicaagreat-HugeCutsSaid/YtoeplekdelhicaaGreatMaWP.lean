/- 'made' as a contract. No condition. -/
import Derived.Test.YtoeplekdelhicaaGreatMaTP1
import Derived.Test.YtoeplekdelhicaaGreatMaTP2
import Derived.Test.YtoeplekdelhicaaGreatMaTP3
import Derived.Test.YtoeplekdelhicaaGreatMaTP4
import Derived.Test.YtoeplekdelhicaaGreatMaTP5
import Derived.Test.YtoeplekdelhicaaGreatMaTP6
import Derived.Test.YtoeplekdelhicaaGreatMaTP7
import Derived.Test.YtoeplekdelhicaaGreatMaTP8
import Derived.Test.YtoeplekdelhicaaGreatMaMP
import Derived.KernelRfl
namespace Go.Proofs.YtoeplekdelhicaaGreat.ma
set_option maxHeartbeats 40000000
open Go.Ab
theorem nameP : (Tryz.f6.name == "runtime.NumGoroutine") = false := by kernel_rfl
theorem bodyP : ∃ c, Tryz.f6.body = some c := ⟨_, rfl⟩
theorem lowP (i : Nat) (o : O) (h : (i, o) ∈ blocksP) : i + 1 ≤ cloP.nx := by
  have := List.all_eq_true.1 (show (blocksP.all fun e => Nat.ble (e.1 + 1) cloP.nx) = true from by kernel_rfl) _ h
  rwa [Nat.ble_eq] at this
theorem numP : cloP.f = 6 := by kernel_rfl
theorem funP : Tryz.prog.funcs[cloP.f]? = some Tryz.f6 := by rw [numP]; exact Tryz.func6
theorem madeOkP (σ : Nat → Int) : OrcOk Tryz.prog CX σ (cloOrc cloP) := by
  obtain ⟨c, hc⟩ := bodyP
  have hfin := finP
  split at hfin
  · rename_i v h hx
    refine cloOrc_ok (S := noSy) (orc := noOrc) (tab := FT) (nf := 100001) (v1 := v) (h1 := h) noSy_ok hyp follows noOrc_nat (fun _ => noOrc_ok) tabOk funP hc nameP (by kernel_rfl) ?_ ?_ hfin σ
    · intro b o hb
      obtain ⟨i, hi, rfl⟩ := zh_get blocksP b o hb
      rw [Pos.toNat_of]
      exact lowP i o hi
    · show (env noSy noOrc FT (100000 + 1)).callV (.fn 6 [] []) aP (.mk (Pos.of 8) .nil) _ = _
      rw [Go.Ab.begin_ok beginsP]
      show interp noSy noOrc FT _ sP0 = _
      rw [script_ok noOrc_nat cP1, script_ok noOrc_nat cP2, script_ok noOrc_nat cP3, script_ok noOrc_nat cP4, script_ok noOrc_nat cP5, script_ok noOrc_nat cP6, script_ok noOrc_nat cP7, script_ok noOrc_nat cP8]
      exact hx
  · cases hfin
end Go.Proofs.YtoeplekdelhicaaGreat.ma
