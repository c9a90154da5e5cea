/- 'MoveWaits' returns true at these cases: runs by the kernel. No condition. -/
import Derived.Test.YthjamfniihejcaaGreatMoveWaitsP
import Derived.Test.YthjamfniihejcaaGreatMoveWaitsG1
import Derived.KernelRfl
namespace Go.Proofs.YthjamfniihejcaaGreat.moveWaits
open Go.Ab Go.Proofs.YthjamfniihejcaaGreat.ma
theorem pA20 : fA 20 = true := by
  have e : mdD 0 40 20 (hiD 2 1 d0) = [⟨0, 255, [], [(.ofNat 40, .ofNat 20)]⟩, ⟨0, 255, [], []⟩, ⟨0, 0, [], []⟩] := by kernel_rfl
  have ea : mkArgs sh 0 [⟨0, 255, [], [(.ofNat 40, .ofNat 20)]⟩, ⟨0, 255, [], []⟩, ⟨0, 0, [], []⟩] = [.sym .u8 0, .sym .u8 1, (.bool false)] := by kernel_rfl
  show leaf orc FT (100000 + 1) 4 sh [] (mdD 0 40 20 (hiD 2 1 d0)) = true
  rw [e]
  refine leaf_cut (q := q1 (.bool false)) (by rw [ea]; kernel_rfl) (fun k0 => ?_) (by kernel_rfl)
  rw [ea]
  exact script_ok orc_nat (g1 (⟨0, 255, [], [(.ofNat 40, .ofNat 20)]⟩) (⟨0, 255, [], []⟩) (⟨0, 0, [], []⟩) (.bool false))
theorem pA21 : fA 21 = true := by
  have e : mdD 0 40 21 (hiD 2 1 d0) = [⟨0, 255, [], [(.ofNat 40, .ofNat 21)]⟩, ⟨0, 255, [], []⟩, ⟨0, 0, [], []⟩] := by kernel_rfl
  have ea : mkArgs sh 0 [⟨0, 255, [], [(.ofNat 40, .ofNat 21)]⟩, ⟨0, 255, [], []⟩, ⟨0, 0, [], []⟩] = [.sym .u8 0, .sym .u8 1, (.bool false)] := by kernel_rfl
  show leaf orc FT (100000 + 1) 4 sh [] (mdD 0 40 21 (hiD 2 1 d0)) = true
  rw [e]
  refine leaf_cut (q := q1 (.bool false)) (by rw [ea]; kernel_rfl) (fun k0 => ?_) (by kernel_rfl)
  rw [ea]
  exact script_ok orc_nat (g1 (⟨0, 255, [], [(.ofNat 40, .ofNat 21)]⟩) (⟨0, 255, [], []⟩) (⟨0, 0, [], []⟩) (.bool false))
theorem pA22 : fA 22 = true := by
  have e : mdD 0 40 22 (hiD 2 1 d0) = [⟨0, 255, [], [(.ofNat 40, .ofNat 22)]⟩, ⟨0, 255, [], []⟩, ⟨0, 0, [], []⟩] := by kernel_rfl
  have ea : mkArgs sh 0 [⟨0, 255, [], [(.ofNat 40, .ofNat 22)]⟩, ⟨0, 255, [], []⟩, ⟨0, 0, [], []⟩] = [.sym .u8 0, .sym .u8 1, (.bool false)] := by kernel_rfl
  show leaf orc FT (100000 + 1) 4 sh [] (mdD 0 40 22 (hiD 2 1 d0)) = true
  rw [e]
  refine leaf_cut (q := q1 (.bool false)) (by rw [ea]; kernel_rfl) (fun k0 => ?_) (by kernel_rfl)
  rw [ea]
  exact script_ok orc_nat (g1 (⟨0, 255, [], [(.ofNat 40, .ofNat 22)]⟩) (⟨0, 255, [], []⟩) (⟨0, 0, [], []⟩) (.bool false))
theorem pA23 : fA 23 = true := by
  have e : mdD 0 40 23 (hiD 2 1 d0) = [⟨0, 255, [], [(.ofNat 40, .ofNat 23)]⟩, ⟨0, 255, [], []⟩, ⟨0, 0, [], []⟩] := by kernel_rfl
  have ea : mkArgs sh 0 [⟨0, 255, [], [(.ofNat 40, .ofNat 23)]⟩, ⟨0, 255, [], []⟩, ⟨0, 0, [], []⟩] = [.sym .u8 0, .sym .u8 1, (.bool false)] := by kernel_rfl
  show leaf orc FT (100000 + 1) 4 sh [] (mdD 0 40 23 (hiD 2 1 d0)) = true
  rw [e]
  refine leaf_cut (q := q1 (.bool false)) (by rw [ea]; kernel_rfl) (fun k0 => ?_) (by kernel_rfl)
  rw [ea]
  exact script_ok orc_nat (g1 (⟨0, 255, [], [(.ofNat 40, .ofNat 23)]⟩) (⟨0, 255, [], []⟩) (⟨0, 0, [], []⟩) (.bool false))
end Go.Proofs.YthjamfniihejcaaGreat.moveWaits
