/- 'MoveWaits' returns true at these cases: runs by the kernel. No condition. -/
import Derived.Test.YthjamfniihejcaaGreatMoveWaitsP
import Derived.Test.YthjamfniihejcaaGreatMoveWaitsG1
import Derived.KernelRfl
namespace Go.Proofs.YthjamfniihejcaaGreat.moveWaits
open Go.Ab Go.Proofs.YthjamfniihejcaaGreat.ma
theorem pB0 : fB 0 = true := by
  have e : mdD 0 40 0 (loD 2 1 d0) = [⟨0, 255, [], [(.ofNat 40, .ofNat 0)]⟩, ⟨0, 255, [], []⟩, ⟨1, 1, [], []⟩] := by kernel_rfl
  have ea : mkArgs sh 0 [⟨0, 255, [], [(.ofNat 40, .ofNat 0)]⟩, ⟨0, 255, [], []⟩, ⟨1, 1, [], []⟩] = [.sym .u8 0, .sym .u8 1, (.bool true)] := by kernel_rfl
  show leaf orc FT (100000 + 1) 4 sh [] (mdD 0 40 0 (loD 2 1 d0)) = true
  rw [e]
  refine leaf_cut (q := q1 (.bool true)) (by rw [ea]; kernel_rfl) (fun k0 => ?_) (by kernel_rfl)
  rw [ea]
  exact script_ok orc_nat (g1 (⟨0, 255, [], [(.ofNat 40, .ofNat 0)]⟩) (⟨0, 255, [], []⟩) (⟨1, 1, [], []⟩) (.bool true))
theorem pB1 : fB 1 = true := by
  have e : mdD 0 40 1 (loD 2 1 d0) = [⟨0, 255, [], [(.ofNat 40, .ofNat 1)]⟩, ⟨0, 255, [], []⟩, ⟨1, 1, [], []⟩] := by kernel_rfl
  have ea : mkArgs sh 0 [⟨0, 255, [], [(.ofNat 40, .ofNat 1)]⟩, ⟨0, 255, [], []⟩, ⟨1, 1, [], []⟩] = [.sym .u8 0, .sym .u8 1, (.bool true)] := by kernel_rfl
  show leaf orc FT (100000 + 1) 4 sh [] (mdD 0 40 1 (loD 2 1 d0)) = true
  rw [e]
  refine leaf_cut (q := q1 (.bool true)) (by rw [ea]; kernel_rfl) (fun k0 => ?_) (by kernel_rfl)
  rw [ea]
  exact script_ok orc_nat (g1 (⟨0, 255, [], [(.ofNat 40, .ofNat 1)]⟩) (⟨0, 255, [], []⟩) (⟨1, 1, [], []⟩) (.bool true))
theorem pB2 : fB 2 = true := by
  have e : mdD 0 40 2 (loD 2 1 d0) = [⟨0, 255, [], [(.ofNat 40, .ofNat 2)]⟩, ⟨0, 255, [], []⟩, ⟨1, 1, [], []⟩] := by kernel_rfl
  have ea : mkArgs sh 0 [⟨0, 255, [], [(.ofNat 40, .ofNat 2)]⟩, ⟨0, 255, [], []⟩, ⟨1, 1, [], []⟩] = [.sym .u8 0, .sym .u8 1, (.bool true)] := by kernel_rfl
  show leaf orc FT (100000 + 1) 4 sh [] (mdD 0 40 2 (loD 2 1 d0)) = true
  rw [e]
  refine leaf_cut (q := q1 (.bool true)) (by rw [ea]; kernel_rfl) (fun k0 => ?_) (by kernel_rfl)
  rw [ea]
  exact script_ok orc_nat (g1 (⟨0, 255, [], [(.ofNat 40, .ofNat 2)]⟩) (⟨0, 255, [], []⟩) (⟨1, 1, [], []⟩) (.bool true))
theorem pB3 : fB 3 = true := by
  have e : mdD 0 40 3 (loD 2 1 d0) = [⟨0, 255, [], [(.ofNat 40, .ofNat 3)]⟩, ⟨0, 255, [], []⟩, ⟨1, 1, [], []⟩] := by kernel_rfl
  have ea : mkArgs sh 0 [⟨0, 255, [], [(.ofNat 40, .ofNat 3)]⟩, ⟨0, 255, [], []⟩, ⟨1, 1, [], []⟩] = [.sym .u8 0, .sym .u8 1, (.bool true)] := by kernel_rfl
  show leaf orc FT (100000 + 1) 4 sh [] (mdD 0 40 3 (loD 2 1 d0)) = true
  rw [e]
  refine leaf_cut (q := q1 (.bool true)) (by rw [ea]; kernel_rfl) (fun k0 => ?_) (by kernel_rfl)
  rw [ea]
  exact script_ok orc_nat (g1 (⟨0, 255, [], [(.ofNat 40, .ofNat 3)]⟩) (⟨0, 255, [], []⟩) (⟨1, 1, [], []⟩) (.bool true))
end Go.Proofs.YthjamfniihejcaaGreat.moveWaits
