/- 'MoveWaits' returns true at these cases: runs by the kernel. No condition. -/
import Derived.Test.YthjamfniihejcaaGreatMoveWaitsP
import Derived.Test.YthjamfniihejcaaGreatMoveWaitsG1
import Derived.KernelRfl
namespace Go.Proofs.YthjamfniihejcaaGreat.moveWaits
open Go.Ab Go.Proofs.YthjamfniihejcaaGreat.ma
theorem pB16 : fB 16 = true := by
  have e : mdD 0 40 16 (loD 2 1 d0) = [⟨0, 255, [], [(.ofNat 40, .ofNat 16)]⟩, ⟨0, 255, [], []⟩, ⟨1, 1, [], []⟩] := by kernel_rfl
  have ea : mkArgs sh 0 [⟨0, 255, [], [(.ofNat 40, .ofNat 16)]⟩, ⟨0, 255, [], []⟩, ⟨1, 1, [], []⟩] = [.sym .u8 0, .sym .u8 1, (.bool true)] := by kernel_rfl
  show leaf orc FT (100000 + 1) 4 sh [] (mdD 0 40 16 (loD 2 1 d0)) = true
  rw [e]
  refine leaf_cut (q := q1 (.bool true)) (by rw [ea]; kernel_rfl) (fun k0 => ?_) (by kernel_rfl)
  rw [ea]
  exact script_ok orc_nat (g1 (⟨0, 255, [], [(.ofNat 40, .ofNat 16)]⟩) (⟨0, 255, [], []⟩) (⟨1, 1, [], []⟩) (.bool true))
theorem pB17 : fB 17 = true := by
  have e : mdD 0 40 17 (loD 2 1 d0) = [⟨0, 255, [], [(.ofNat 40, .ofNat 17)]⟩, ⟨0, 255, [], []⟩, ⟨1, 1, [], []⟩] := by kernel_rfl
  have ea : mkArgs sh 0 [⟨0, 255, [], [(.ofNat 40, .ofNat 17)]⟩, ⟨0, 255, [], []⟩, ⟨1, 1, [], []⟩] = [.sym .u8 0, .sym .u8 1, (.bool true)] := by kernel_rfl
  show leaf orc FT (100000 + 1) 4 sh [] (mdD 0 40 17 (loD 2 1 d0)) = true
  rw [e]
  refine leaf_cut (q := q1 (.bool true)) (by rw [ea]; kernel_rfl) (fun k0 => ?_) (by kernel_rfl)
  rw [ea]
  exact script_ok orc_nat (g1 (⟨0, 255, [], [(.ofNat 40, .ofNat 17)]⟩) (⟨0, 255, [], []⟩) (⟨1, 1, [], []⟩) (.bool true))
theorem pB18 : fB 18 = true := by
  have e : mdD 0 40 18 (loD 2 1 d0) = [⟨0, 255, [], [(.ofNat 40, .ofNat 18)]⟩, ⟨0, 255, [], []⟩, ⟨1, 1, [], []⟩] := by kernel_rfl
  have ea : mkArgs sh 0 [⟨0, 255, [], [(.ofNat 40, .ofNat 18)]⟩, ⟨0, 255, [], []⟩, ⟨1, 1, [], []⟩] = [.sym .u8 0, .sym .u8 1, (.bool true)] := by kernel_rfl
  show leaf orc FT (100000 + 1) 4 sh [] (mdD 0 40 18 (loD 2 1 d0)) = true
  rw [e]
  refine leaf_cut (q := q1 (.bool true)) (by rw [ea]; kernel_rfl) (fun k0 => ?_) (by kernel_rfl)
  rw [ea]
  exact script_ok orc_nat (g1 (⟨0, 255, [], [(.ofNat 40, .ofNat 18)]⟩) (⟨0, 255, [], []⟩) (⟨1, 1, [], []⟩) (.bool true))
theorem pB19 : fB 19 = true := by
  have e : mdD 0 40 19 (loD 2 1 d0) = [⟨0, 255, [], [(.ofNat 40, .ofNat 19)]⟩, ⟨0, 255, [], []⟩, ⟨1, 1, [], []⟩] := by kernel_rfl
  have ea : mkArgs sh 0 [⟨0, 255, [], [(.ofNat 40, .ofNat 19)]⟩, ⟨0, 255, [], []⟩, ⟨1, 1, [], []⟩] = [.sym .u8 0, .sym .u8 1, (.bool true)] := by kernel_rfl
  show leaf orc FT (100000 + 1) 4 sh [] (mdD 0 40 19 (loD 2 1 d0)) = true
  rw [e]
  refine leaf_cut (q := q1 (.bool true)) (by rw [ea]; kernel_rfl) (fun k0 => ?_) (by kernel_rfl)
  rw [ea]
  exact script_ok orc_nat (g1 (⟨0, 255, [], [(.ofNat 40, .ofNat 19)]⟩) (⟨0, 255, [], []⟩) (⟨1, 1, [], []⟩) (.bool true))
end Go.Proofs.YthjamfniihejcaaGreat.moveWaits
