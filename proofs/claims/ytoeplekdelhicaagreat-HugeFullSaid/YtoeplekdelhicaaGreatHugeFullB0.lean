/- 'HugeFull' returns true at these cases: runs by the kernel. No condition. -/
import Derived.Test.YtoeplekdelhicaaGreatHugeFullP
import Derived.Test.YtoeplekdelhicaaGreatHugeFullG1
import Derived.Test.YtoeplekdelhicaaGreatHugeFullG2
import Derived.Test.YtoeplekdelhicaaGreatHugeFullG3
import Derived.Test.YtoeplekdelhicaaGreatHugeFullG4
import Derived.Test.YtoeplekdelhicaaGreatHugeFullG5
import Derived.KernelRfl
namespace Go.Proofs.YtoeplekdelhicaaGreat.hugeFull
set_option maxHeartbeats 40000000
set_option maxRecDepth 10000000
open Go.Ab Go.Proofs.YtoeplekdelhicaaGreat.ma
theorem pA0 : fA 0 = true := by
  have e : d0 = [⟨0, 255, [], []⟩] := by kernel_rfl
  have ea : mkArgs sh 0 [⟨0, 255, [], []⟩] = [.sym .u8 0] := by kernel_rfl
  show leaf orc FT (100000 + 1) 4 sh [] (d0) = true
  rw [e]
  refine leaf_cut (q := q5) (by rw [ea]; kernel_rfl) (fun k0 => ?_) (by kernel_rfl)
  rw [ea]
  exact (script_ok orc_nat (g1)).trans ((script_ok orc_nat (g2)).trans ((script_ok orc_nat (g3)).trans ((script_ok orc_nat (g4)).trans (script_ok orc_nat (g5)))))
end Go.Proofs.YtoeplekdelhicaaGreat.hugeFull
