/- 'MoveWaits' returns true at these cases: runs by the kernel. No condition. -/
import Derived.Test.YthjamfniihejcaaGreatMoveWaitsP
import Derived.Test.YthjamfniihejcaaGreatMoveWaitsG1
import Derived.KernelRfl
namespace Go.Proofs.YthjamfniihejcaaGreat.moveWaits
open Go.Ab Go.Proofs.YthjamfniihejcaaGreat.ma
theorem pB4 : fB 4 = true := by
  have e : mdD 0 40 4 (loD 2 1 d0) = [⟨0, 255, [], [(.ofNat 40, .ofNat 4)]⟩, ⟨0, 255, [], []⟩, ⟨1, 1, [], []⟩] := by kernel_rfl
  have ea : mkArgs sh 0 [⟨0, 255, [], [(.ofNat 40, .ofNat 4)]⟩, ⟨0, 255, [], []⟩, ⟨1, 1, [], []⟩] = [.sym .u8 0, .sym .u8 1, (.bool true)] := by kernel_rfl
  show leaf orc FT (100000 + 1) 4 sh [] (mdD 0 40 4 (loD 2 1 d0)) = true
  rw [e]
  refine leaf_cut (q := q1 (.bool true)) (by rw [ea]; kernel_rfl) (fun k0 => ?_) (by kernel_rfl)
  rw [ea]
  exact script_ok orc_nat (g1 (⟨0, 255, [], [(.ofNat 40, .ofNat 4)]⟩) (⟨0, 255, [], []⟩) (⟨1, 1, [], []⟩) (.bool true))
theorem pB5 : fB 5 = true := by
  have e : mdD 0 40 5 (loD 2 1 d0) = [⟨0, 255, [], [(.ofNat 40, .ofNat 5)]⟩, ⟨0, 255, [], []⟩, ⟨1, 1, [], []⟩] := by kernel_rfl
  have ea : mkArgs sh 0 [⟨0, 255, [], [(.ofNat 40, .ofNat 5)]⟩, ⟨0, 255, [], []⟩, ⟨1, 1, [], []⟩] = [.sym .u8 0, .sym .u8 1, (.bool true)] := by kernel_rfl
  show leaf orc FT (100000 + 1) 4 sh [] (mdD 0 40 5 (loD 2 1 d0)) = true
  rw [e]
  refine leaf_cut (q := q1 (.bool true)) (by rw [ea]; kernel_rfl) (fun k0 => ?_) (by kernel_rfl)
  rw [ea]
  exact script_ok orc_nat (g1 (⟨0, 255, [], [(.ofNat 40, .ofNat 5)]⟩) (⟨0, 255, [], []⟩) (⟨1, 1, [], []⟩) (.bool true))
theorem pB6 : fB 6 = true := by
  have e : mdD 0 40 6 (loD 2 1 d0) = [⟨0, 255, [], [(.ofNat 40, .ofNat 6)]⟩, ⟨0, 255, [], []⟩, ⟨1, 1, [], []⟩] := by kernel_rfl
  have ea : mkArgs sh 0 [⟨0, 255, [], [(.ofNat 40, .ofNat 6)]⟩, ⟨0, 255, [], []⟩, ⟨1, 1, [], []⟩] = [.sym .u8 0, .sym .u8 1, (.bool true)] := by kernel_rfl
  show leaf orc FT (100000 + 1) 4 sh [] (mdD 0 40 6 (loD 2 1 d0)) = true
  rw [e]
  refine leaf_cut (q := q1 (.bool true)) (by rw [ea]; kernel_rfl) (fun k0 => ?_) (by kernel_rfl)
  rw [ea]
  exact script_ok orc_nat (g1 (⟨0, 255, [], [(.ofNat 40, .ofNat 6)]⟩) (⟨0, 255, [], []⟩) (⟨1, 1, [], []⟩) (.bool true))
theorem pB7 : fB 7 = true := by
  have e : mdD 0 40 7 (loD 2 1 d0) = [⟨0, 255, [], [(.ofNat 40, .ofNat 7)]⟩, ⟨0, 255, [], []⟩, ⟨1, 1, [], []⟩] := by kernel_rfl
  have ea : mkArgs sh 0 [⟨0, 255, [], [(.ofNat 40, .ofNat 7)]⟩, ⟨0, 255, [], []⟩, ⟨1, 1, [], []⟩] = [.sym .u8 0, .sym .u8 1, (.bool true)] := by kernel_rfl
  show leaf orc FT (100000 + 1) 4 sh [] (mdD 0 40 7 (loD 2 1 d0)) = true
  rw [e]
  refine leaf_cut (q := q1 (.bool true)) (by rw [ea]; kernel_rfl) (fun k0 => ?_) (by kernel_rfl)
  rw [ea]
  exact script_ok orc_nat (g1 (⟨0, 255, [], [(.ofNat 40, .ofNat 7)]⟩) (⟨0, 255, [], []⟩) (⟨1, 1, [], []⟩) (.bool true))
end Go.Proofs.YthjamfniihejcaaGreat.moveWaits
