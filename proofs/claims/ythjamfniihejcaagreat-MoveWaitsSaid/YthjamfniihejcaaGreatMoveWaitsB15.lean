/- 'MoveWaits' returns true at these cases: runs by the kernel. No condition. -/
import Derived.Test.YthjamfniihejcaaGreatMoveWaitsP
import Derived.Test.YthjamfniihejcaaGreatMoveWaitsG1
import Derived.KernelRfl
namespace Go.Proofs.YthjamfniihejcaaGreat.moveWaits
open Go.Ab Go.Proofs.YthjamfniihejcaaGreat.ma
theorem pB20 : fB 20 = true := by
  have e : mdD 0 40 20 (loD 2 1 d0) = [⟨0, 255, [], [(.ofNat 40, .ofNat 20)]⟩, ⟨0, 255, [], []⟩, ⟨1, 1, [], []⟩] := by kernel_rfl
  have ea : mkArgs sh 0 [⟨0, 255, [], [(.ofNat 40, .ofNat 20)]⟩, ⟨0, 255, [], []⟩, ⟨1, 1, [], []⟩] = [.sym .u8 0, .sym .u8 1, (.bool true)] := by kernel_rfl
  show leaf orc FT (100000 + 1) 4 sh [] (mdD 0 40 20 (loD 2 1 d0)) = true
  rw [e]
  refine leaf_cut (q := q1 (.bool true)) (by rw [ea]; kernel_rfl) (fun k0 => ?_) (by kernel_rfl)
  rw [ea]
  exact script_ok orc_nat (g1 (⟨0, 255, [], [(.ofNat 40, .ofNat 20)]⟩) (⟨0, 255, [], []⟩) (⟨1, 1, [], []⟩) (.bool true))
theorem pB21 : fB 21 = true := by
  have e : mdD 0 40 21 (loD 2 1 d0) = [⟨0, 255, [], [(.ofNat 40, .ofNat 21)]⟩, ⟨0, 255, [], []⟩, ⟨1, 1, [], []⟩] := by kernel_rfl
  have ea : mkArgs sh 0 [⟨0, 255, [], [(.ofNat 40, .ofNat 21)]⟩, ⟨0, 255, [], []⟩, ⟨1, 1, [], []⟩] = [.sym .u8 0, .sym .u8 1, (.bool true)] := by kernel_rfl
  show leaf orc FT (100000 + 1) 4 sh [] (mdD 0 40 21 (loD 2 1 d0)) = true
  rw [e]
  refine leaf_cut (q := q1 (.bool true)) (by rw [ea]; kernel_rfl) (fun k0 => ?_) (by kernel_rfl)
  rw [ea]
  exact script_ok orc_nat (g1 (⟨0, 255, [], [(.ofNat 40, .ofNat 21)]⟩) (⟨0, 255, [], []⟩) (⟨1, 1, [], []⟩) (.bool true))
theorem pB22 : fB 22 = true := by
  have e : mdD 0 40 22 (loD 2 1 d0) = [⟨0, 255, [], [(.ofNat 40, .ofNat 22)]⟩, ⟨0, 255, [], []⟩, ⟨1, 1, [], []⟩] := by kernel_rfl
  have ea : mkArgs sh 0 [⟨0, 255, [], [(.ofNat 40, .ofNat 22)]⟩, ⟨0, 255, [], []⟩, ⟨1, 1, [], []⟩] = [.sym .u8 0, .sym .u8 1, (.bool true)] := by kernel_rfl
  show leaf orc FT (100000 + 1) 4 sh [] (mdD 0 40 22 (loD 2 1 d0)) = true
  rw [e]
  refine leaf_cut (q := q1 (.bool true)) (by rw [ea]; kernel_rfl) (fun k0 => ?_) (by kernel_rfl)
  rw [ea]
  exact script_ok orc_nat (g1 (⟨0, 255, [], [(.ofNat 40, .ofNat 22)]⟩) (⟨0, 255, [], []⟩) (⟨1, 1, [], []⟩) (.bool true))
theorem pB23 : fB 23 = true := by
  have e : mdD 0 40 23 (loD 2 1 d0) = [⟨0, 255, [], [(.ofNat 40, .ofNat 23)]⟩, ⟨0, 255, [], []⟩, ⟨1, 1, [], []⟩] := by kernel_rfl
  have ea : mkArgs sh 0 [⟨0, 255, [], [(.ofNat 40, .ofNat 23)]⟩, ⟨0, 255, [], []⟩, ⟨1, 1, [], []⟩] = [.sym .u8 0, .sym .u8 1, (.bool true)] := by kernel_rfl
  show leaf orc FT (100000 + 1) 4 sh [] (mdD 0 40 23 (loD 2 1 d0)) = true
  rw [e]
  refine leaf_cut (q := q1 (.bool true)) (by rw [ea]; kernel_rfl) (fun k0 => ?_) (by kernel_rfl)
  rw [ea]
  exact script_ok orc_nat (g1 (⟨0, 255, [], [(.ofNat 40, .ofNat 23)]⟩) (⟨0, 255, [], []⟩) (⟨1, 1, [], []⟩) (.bool true))
end Go.Proofs.YthjamfniihejcaaGreat.moveWaits
