/-
  No cell of these rows narrows 'for every input' (looked for: loops, veiled, ifaces, maps, wideKeys, modest, calm, conditions, laid).
  DERIVED. THE GIVEN ROWS OF THIS SEAT. 5 by the template 'for every input the law returns true; each argument reads behind the call as it read before'; 0 by the template 'total and deterministic' (their statements: YtnhakkolafedhaaGreatTotals.lean).
  GIVEN WITH THE SEED: the statements are not yours to turn. If you find one false, say at which input.
  Laid BY PROGRAM, IN A SANDBOX (cutbox-rows.mjs): the forced cells as the released guide's own fill.sh prints them over the translation 124adc83cd170cd8… (all of the seat's roots in one cut). By AI agents, Wed Nov 11 2026. No macro, syntax, notation, axiom, sorry.
-/
import Derived.Test.YtnhakkolafedhaaGreatChecked
import GoSem.Claim
import GoSem.ClaimJoined
import GoSem.ClaimMapViews
import Derived.JoinedTies
import Derived.KernelRfl
namespace Go.Proofs.YtnhakkolafedhaaGreat
/- THE CELL 'sum', in the pinned program and in every row, IS THE sha256 OF THE DUMP (.gsa) THAT YtnhakkolafedhaaGreatProg.lean LOADS. Nothing in Lean hashes anything: it is a label: what it is worth is what the hold of that sum in a sandbox is worth. -/
noncomputable def Tryz.pinned : Pinned := { name := "ytnhakkolafedhaagreat", sum := "124adc83cd170cd83354ddaccbc3596715413bc765a1b0b6c8fec49d1cfc2b6e", checked := Tryz.checked }
namespace Rows
def none {H : Type} : Left H := { results := [], args := [] }

/-- 'basinlaw15.ReplicaNobody': WHATEVER THE INPUT: true; the input reads as it did. -/
def replicaNobodySpec : ChangeSpec := { name := "replicaNobody", fn := fun _ => fun
  | [d] => { results := [.lit (.bool true)], args := [d] }
  | _ => none }
def replicaNobodyRow : OpenClaim := { program := "ytnhakkolafedhaagreat", sum := "124adc83cd170cd83354ddaccbc3596715413bc765a1b0b6c8fec49d1cfc2b6e", func := "basin/basinlaw15.ReplicaNobody", spec := "replicaNobody", unfollowed := true, recurses := true, plainKeys := false, apart := false }
def ReplicaNobodySaid : Prop := replicaNobodyRow.holds Tryz.pinned (OpenSpec.ofChange replicaNobodySpec)

/-- ITS FALSE NEIGHBOUR: 'it returns false'. Refute it at one input. -/
def replicaNobodyWrong : ChangeSpec := { name := "replicaNobody", fn := fun _ => fun
  | [d] => { results := [.lit (.bool false)], args := [d] }
  | _ => none }
def ReplicaNobodyWrongFalsely : Prop := replicaNobodyRow.holds Tryz.pinned (OpenSpec.ofChange replicaNobodyWrong)

/-- 'basinlaw16.KernNobody': WHATEVER THE INPUT: true; the input reads as it did. -/
def kernNobodySpec : ChangeSpec := { name := "kernNobody", fn := fun _ => fun
  | [d] => { results := [.lit (.bool true)], args := [d] }
  | _ => none }
def kernNobodyRow : OpenClaim := { program := "ytnhakkolafedhaagreat", sum := "124adc83cd170cd83354ddaccbc3596715413bc765a1b0b6c8fec49d1cfc2b6e", func := "basin/basinlaw16.KernNobody", spec := "kernNobody", unfollowed := true, recurses := true, plainKeys := false, apart := false }
def KernNobodySaid : Prop := kernNobodyRow.holds Tryz.pinned (OpenSpec.ofChange kernNobodySpec)

/-- ITS FALSE NEIGHBOUR: 'it returns false'. Refute it at one input. -/
def kernNobodyWrong : ChangeSpec := { name := "kernNobody", fn := fun _ => fun
  | [d] => { results := [.lit (.bool false)], args := [d] }
  | _ => none }
def KernNobodyWrongFalsely : Prop := kernNobodyRow.holds Tryz.pinned (OpenSpec.ofChange kernNobodyWrong)

/-- 'basinlaw27.AuditNobody': WHATEVER THE INPUT: true; the input reads as it did. -/
def auditNobodySpec : ChangeSpec := { name := "auditNobody", fn := fun _ => fun
  | [d] => { results := [.lit (.bool true)], args := [d] }
  | _ => none }
def auditNobodyRow : OpenClaim := { program := "ytnhakkolafedhaagreat", sum := "124adc83cd170cd83354ddaccbc3596715413bc765a1b0b6c8fec49d1cfc2b6e", func := "basin/basinlaw27.AuditNobody", spec := "auditNobody", unfollowed := true, recurses := true, plainKeys := false, apart := false }
def AuditNobodySaid : Prop := auditNobodyRow.holds Tryz.pinned (OpenSpec.ofChange auditNobodySpec)

/-- ITS FALSE NEIGHBOUR: 'it returns false'. Refute it at one input. -/
def auditNobodyWrong : ChangeSpec := { name := "auditNobody", fn := fun _ => fun
  | [d] => { results := [.lit (.bool false)], args := [d] }
  | _ => none }
def AuditNobodyWrongFalsely : Prop := auditNobodyRow.holds Tryz.pinned (OpenSpec.ofChange auditNobodyWrong)

/-- 'basinlaw19.CallCombines': WHATEVER THE INPUT: true; the input reads as it did. -/
def callCombinesSpec : ChangeSpec := { name := "callCombines", fn := fun _ => fun
  | [d1, d2] => { results := [.lit (.bool true)], args := [d1, d2] }
  | _ => none }
def callCombinesRow : OpenClaim := { program := "ytnhakkolafedhaagreat", sum := "124adc83cd170cd83354ddaccbc3596715413bc765a1b0b6c8fec49d1cfc2b6e", func := "basin/basinlaw19.CallCombines", spec := "callCombines", unfollowed := true, recurses := true, plainKeys := false, apart := false }
def CallCombinesSaid : Prop := callCombinesRow.holds Tryz.pinned (OpenSpec.ofChange callCombinesSpec)

/-- ITS FALSE NEIGHBOUR: 'it returns false'. Refute it at one input. -/
def callCombinesWrong : ChangeSpec := { name := "callCombines", fn := fun _ => fun
  | [d1, d2] => { results := [.lit (.bool false)], args := [d1, d2] }
  | _ => none }
def CallCombinesWrongFalsely : Prop := callCombinesRow.holds Tryz.pinned (OpenSpec.ofChange callCombinesWrong)

/-- 'basinlaw28.QuietNobody': WHATEVER THE INPUT: true; the input reads as it did. -/
def quietNobodySpec : ChangeSpec := { name := "quietNobody", fn := fun _ => fun
  | [d] => { results := [.lit (.bool true)], args := [d] }
  | _ => none }
def quietNobodyRow : OpenClaim := { program := "ytnhakkolafedhaagreat", sum := "124adc83cd170cd83354ddaccbc3596715413bc765a1b0b6c8fec49d1cfc2b6e", func := "basin/basinlaw28.QuietNobody", spec := "quietNobody", unfollowed := true, recurses := true, plainKeys := false, apart := false }
def QuietNobodySaid : Prop := quietNobodyRow.holds Tryz.pinned (OpenSpec.ofChange quietNobodySpec)

/-- ITS FALSE NEIGHBOUR: 'it returns false'. Refute it at one input. -/
def quietNobodyWrong : ChangeSpec := { name := "quietNobody", fn := fun _ => fun
  | [d] => { results := [.lit (.bool false)], args := [d] }
  | _ => none }
def QuietNobodyWrongFalsely : Prop := quietNobodyRow.holds Tryz.pinned (OpenSpec.ofChange quietNobodyWrong)

/- THE SECOND FORM. 'bulk': how many values and letters a reading holds, each counted each time it is reached (what is shared counts as often as it is met; a slice's spare places count too). A statement '..UptoSaid' is the law's where the arguments, and the package variables that the reading takes, are together of bulk at most 1048576: NARROWER than '..Said'. Prove '..Said' where nothing that the law and all that it calls make is longer than what came in: it says more and counts as full. Else prove '..UptoSaid'. A law counts once. -/
mutual
def uptoBulk {H : Type} : DataW H → Nat
  | .lit (.string bytes) => bytes.length + 1
  | .lit _ => 1
  | .nil => 1
  | .ptr d => uptoBulk d + 1
  | .slice elems spare => uptoBulkAll elems + uptoBulkAll spare + 1
  | .agg parts => uptoBulkAll parts + 1
  | .iface _ d => uptoBulk d + 1
  | .map entries => uptoBulkEntries entries + 1
  | .held _ => 1
def uptoBulkAll {H : Type} : List (DataW H) → Nat
  | [] => 0
  | d :: r => uptoBulk d + uptoBulkAll r
def uptoBulkEntries {H : Type} : List (Lit × DataW H) → Nat
  | [] => 0
  | x :: r => uptoBulkEntry x + uptoBulkEntries r
def uptoBulkEntry {H : Type} : Lit × DataW H → Nat
  | (.string bytes, d) => bytes.length + uptoBulk d + 1
  | (_, d) => uptoBulk d + 1
 end
def uptoSmall : (H : Type) → List (DataW H) → Bool := fun _ ds => decide (uptoBulkAll ds ≤ 1048576)
def OpenSpec.upto (s : _root_.Go.ChangeSpec) : _root_.Go.OpenSpec := { _root_.Go.OpenSpec.ofChange s with cond := some uptoSmall }

/-- 'basinlaw15.ReplicaNobody', WHERE WHAT IT READS IS OF BULK AT MOST 1048576: true; the input reads as it did. -/
def replicaNobodyUptoRow : OpenClaim := { program := "ytnhakkolafedhaagreat", sum := "124adc83cd170cd83354ddaccbc3596715413bc765a1b0b6c8fec49d1cfc2b6e", func := "basin/basinlaw15.ReplicaNobody", spec := "replicaNobody", unfollowed := true, recurses := true, plainKeys := false, apart := false, narrowed := true }
def ReplicaNobodyUptoSaid : Prop := replicaNobodyUptoRow.holds Tryz.pinned (OpenSpec.upto replicaNobodySpec)

/-- 'basinlaw16.KernNobody', WHERE WHAT IT READS IS OF BULK AT MOST 1048576: true; the input reads as it did. -/
def kernNobodyUptoRow : OpenClaim := { program := "ytnhakkolafedhaagreat", sum := "124adc83cd170cd83354ddaccbc3596715413bc765a1b0b6c8fec49d1cfc2b6e", func := "basin/basinlaw16.KernNobody", spec := "kernNobody", unfollowed := true, recurses := true, plainKeys := false, apart := false, narrowed := true }
def KernNobodyUptoSaid : Prop := kernNobodyUptoRow.holds Tryz.pinned (OpenSpec.upto kernNobodySpec)

/-- 'basinlaw27.AuditNobody', WHERE WHAT IT READS IS OF BULK AT MOST 1048576: true; the input reads as it did. -/
def auditNobodyUptoRow : OpenClaim := { program := "ytnhakkolafedhaagreat", sum := "124adc83cd170cd83354ddaccbc3596715413bc765a1b0b6c8fec49d1cfc2b6e", func := "basin/basinlaw27.AuditNobody", spec := "auditNobody", unfollowed := true, recurses := true, plainKeys := false, apart := false, narrowed := true }
def AuditNobodyUptoSaid : Prop := auditNobodyUptoRow.holds Tryz.pinned (OpenSpec.upto auditNobodySpec)

/-- 'basinlaw19.CallCombines', WHERE WHAT IT READS IS OF BULK AT MOST 1048576: true; the input reads as it did. -/
def callCombinesUptoRow : OpenClaim := { program := "ytnhakkolafedhaagreat", sum := "124adc83cd170cd83354ddaccbc3596715413bc765a1b0b6c8fec49d1cfc2b6e", func := "basin/basinlaw19.CallCombines", spec := "callCombines", unfollowed := true, recurses := true, plainKeys := false, apart := false, narrowed := true }
def CallCombinesUptoSaid : Prop := callCombinesUptoRow.holds Tryz.pinned (OpenSpec.upto callCombinesSpec)

/-- 'basinlaw28.QuietNobody', WHERE WHAT IT READS IS OF BULK AT MOST 1048576: true; the input reads as it did. -/
def quietNobodyUptoRow : OpenClaim := { program := "ytnhakkolafedhaagreat", sum := "124adc83cd170cd83354ddaccbc3596715413bc765a1b0b6c8fec49d1cfc2b6e", func := "basin/basinlaw28.QuietNobody", spec := "quietNobody", unfollowed := true, recurses := true, plainKeys := false, apart := false, narrowed := true }
def QuietNobodyUptoSaid : Prop := quietNobodyUptoRow.holds Tryz.pinned (OpenSpec.upto quietNobodySpec)

end Rows
end Go.Proofs.YtnhakkolafedhaaGreat
