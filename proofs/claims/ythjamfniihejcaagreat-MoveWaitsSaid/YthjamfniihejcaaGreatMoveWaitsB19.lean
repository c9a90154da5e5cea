/- 'MoveWaits' returns true at these cases: runs by the kernel. No condition. -/
import Derived.Test.YthjamfniihejcaaGreatMoveWaitsP
import Derived.Test.YthjamfniihejcaaGreatMoveWaitsG1
import Derived.KernelRfl
namespace Go.Proofs.YthjamfniihejcaaGreat.moveWaits
open Go.Ab Go.Proofs.YthjamfniihejcaaGreat.ma
theorem pB36 : fB 36 = true := by
  have e : mdD 0 40 36 (loD 2 1 d0) = [⟨0, 255, [], [(.ofNat 40, .ofNat 36)]⟩, ⟨0, 255, [], []⟩, ⟨1, 1, [], []⟩] := by kernel_rfl
  have ea : mkArgs sh 0 [⟨0, 255, [], [(.ofNat 40, .ofNat 36)]⟩, ⟨0, 255, [], []⟩, ⟨1, 1, [], []⟩] = [.sym .u8 0, .sym .u8 1, (.bool true)] := by kernel_rfl
  show leaf orc FT (100000 + 1) 4 sh [] (mdD 0 40 36 (loD 2 1 d0)) = true
  rw [e]
  refine leaf_cut (q := q1 (.bool true)) (by rw [ea]; kernel_rfl) (fun k0 => ?_) (by kernel_rfl)
  rw [ea]
  exact script_ok orc_nat (g1 (⟨0, 255, [], [(.ofNat 40, .ofNat 36)]⟩) (⟨0, 255, [], []⟩) (⟨1, 1, [], []⟩) (.bool true))
theorem pB37 : fB 37 = true := by
  have e : mdD 0 40 37 (loD 2 1 d0) = [⟨0, 255, [], [(.ofNat 40, .ofNat 37)]⟩, ⟨0, 255, [], []⟩, ⟨1, 1, [], []⟩] := by kernel_rfl
  have ea : mkArgs sh 0 [⟨0, 255, [], [(.ofNat 40, .ofNat 37)]⟩, ⟨0, 255, [], []⟩, ⟨1, 1, [], []⟩] = [.sym .u8 0, .sym .u8 1, (.bool true)] := by kernel_rfl
  show leaf orc FT (100000 + 1) 4 sh [] (mdD 0 40 37 (loD 2 1 d0)) = true
  rw [e]
  refine leaf_cut (q := q1 (.bool true)) (by rw [ea]; kernel_rfl) (fun k0 => ?_) (by kernel_rfl)
  rw [ea]
  exact script_ok orc_nat (g1 (⟨0, 255, [], [(.ofNat 40, .ofNat 37)]⟩) (⟨0, 255, [], []⟩) (⟨1, 1, [], []⟩) (.bool true))
theorem pB38 : fB 38 = true := by
  have e : mdD 0 40 38 (loD 2 1 d0) = [⟨0, 255, [], [(.ofNat 40, .ofNat 38)]⟩, ⟨0, 255, [], []⟩, ⟨1, 1, [], []⟩] := by kernel_rfl
  have ea : mkArgs sh 0 [⟨0, 255, [], [(.ofNat 40, .ofNat 38)]⟩, ⟨0, 255, [], []⟩, ⟨1, 1, [], []⟩] = [.sym .u8 0, .sym .u8 1, (.bool true)] := by kernel_rfl
  show leaf orc FT (100000 + 1) 4 sh [] (mdD 0 40 38 (loD 2 1 d0)) = true
  rw [e]
  refine leaf_cut (q := q1 (.bool true)) (by rw [ea]; kernel_rfl) (fun k0 => ?_) (by kernel_rfl)
  rw [ea]
  exact script_ok orc_nat (g1 (⟨0, 255, [], [(.ofNat 40, .ofNat 38)]⟩) (⟨0, 255, [], []⟩) (⟨1, 1, [], []⟩) (.bool true))
theorem pB39 : fB 39 = true := by
  have e : mdD 0 40 39 (loD 2 1 d0) = [⟨0, 255, [], [(.ofNat 40, .ofNat 39)]⟩, ⟨0, 255, [], []⟩, ⟨1, 1, [], []⟩] := by kernel_rfl
  have ea : mkArgs sh 0 [⟨0, 255, [], [(.ofNat 40, .ofNat 39)]⟩, ⟨0, 255, [], []⟩, ⟨1, 1, [], []⟩] = [.sym .u8 0, .sym .u8 1, (.bool true)] := by kernel_rfl
  show leaf orc FT (100000 + 1) 4 sh [] (mdD 0 40 39 (loD 2 1 d0)) = true
  rw [e]
  refine leaf_cut (q := q1 (.bool true)) (by rw [ea]; kernel_rfl) (fun k0 => ?_) (by kernel_rfl)
  rw [ea]
  exact script_ok orc_nat (g1 (⟨0, 255, [], [(.ofNat 40, .ofNat 39)]⟩) (⟨0, 255, [], []⟩) (⟨1, 1, [], []⟩) (.bool true))
end Go.Proofs.YthjamfniihejcaaGreat.moveWaits
