/- 'made' as a contract. No condition. -/
import Derived.Test.YtoeplekdelhicaaGreatMaTQ1
import Derived.Test.YtoeplekdelhicaaGreatMaTQ2
import Derived.Test.YtoeplekdelhicaaGreatMaTQ3
import Derived.Test.YtoeplekdelhicaaGreatMaTQ4
import Derived.Test.YtoeplekdelhicaaGreatMaTQ5
import Derived.Test.YtoeplekdelhicaaGreatMaTQ6
import Derived.Test.YtoeplekdelhicaaGreatMaTQ7
import Derived.Test.YtoeplekdelhicaaGreatMaTQ8
import Derived.Test.YtoeplekdelhicaaGreatMaMQ
import Derived.KernelRfl
namespace Go.Proofs.YtoeplekdelhicaaGreat.ma
set_option maxHeartbeats 40000000
open Go.Ab
theorem nameQ : (Tryz.f6.name == "runtime.NumGoroutine") = false := by kernel_rfl
theorem bodyQ : ∃ c, Tryz.f6.body = some c := ⟨_, rfl⟩
theorem lowQ (i : Nat) (o : O) (h : (i, o) ∈ blocksQ) : i + 1 ≤ cloQ.nx := by
  have := List.all_eq_true.1 (show (blocksQ.all fun e => Nat.ble (e.1 + 1) cloQ.nx) = true from by kernel_rfl) _ h
  rwa [Nat.ble_eq] at this
theorem numQ : cloQ.f = 6 := by kernel_rfl
theorem funQ : Tryz.prog.funcs[cloQ.f]? = some Tryz.f6 := by rw [numQ]; exact Tryz.func6
theorem madeOkQ (σ : Nat → Int) : OrcOk Tryz.prog CX σ (cloOrc cloQ) := by
  obtain ⟨c, hc⟩ := bodyQ
  have hfin := finQ
  split at hfin
  · rename_i v h hx
    refine cloOrc_ok (S := noSy) (orc := noOrc) (tab := FT) (nf := 100001) (v1 := v) (h1 := h) noSy_ok hyp follows noOrc_nat (fun _ => noOrc_ok) tabOk funQ hc nameQ (by kernel_rfl) ?_ ?_ hfin σ
    · intro b o hb
      obtain ⟨i, hi, rfl⟩ := zh_get blocksQ b o hb
      rw [Pos.toNat_of]
      exact lowQ i o hi
    · show (env noSy noOrc FT (100000 + 1)).callV (.fn 6 [] []) aQ (.mk (Pos.of 8) .nil) _ = _
      rw [Go.Ab.begin_ok beginsQ]
      show interp noSy noOrc FT _ sQ0 = _
      rw [script_ok noOrc_nat cQ1, script_ok noOrc_nat cQ2, script_ok noOrc_nat cQ3, script_ok noOrc_nat cQ4, script_ok noOrc_nat cQ5, script_ok noOrc_nat cQ6, script_ok noOrc_nat cQ7, script_ok noOrc_nat cQ8]
      exact hx
  · cases hfin
end Go.Proofs.YtoeplekdelhicaaGreat.ma
