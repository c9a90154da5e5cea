/-
  DERIVED. GIVEN WITH THE SEED: THE CARDS: each row of YtkjlkjnlhogkiaaDoorRows.lean that lists a variable, with what it lists TIED to the program's text (the seventh form; the later family's looks); each row that meets fmt, with fmt's text TOLD by the authors' own Lean function (tested against real Go, not proved from fmt's source: count such statements apart). THE CARD IS WHAT COUNTS. Prove the row's statement (the work); the ties are given (YtkjlkjnlhogkiaaDoorTie.lean); close each card by the builder's one call (the guide's Derived/Test/ToyasCard.lean, 'card_holds'). Laid BY PROGRAM, IN A SANDBOX (cutbox-door.mjs). By AI agents, Wed Nov 11 2026. No macro, syntax, notation, axiom, sorry.
-/
import Derived.Test.YtkjlkjnlhogkiaaDoorRows
import GoSem.ClaimSeven
namespace Go.Proofs.YtkjlkjnlhogkiaaDoor
namespace Rows

/-- THE TIED CARD OF 'basinlaw26.HistoryChecks'. -/
def historyChecksCard : Claim7 := { stood := { row := historyChecksRow, standIns := [], harness := (true, "d536f93bf24a8a6414927e6b113dc89d83ffa86254f2f073bb1cd47e0fe82cd1"), looks := false }, kinds := [], alts := [], laidByText := true, laidKinds := [.data, .data, .data], laidTests := true, laidLooks := .later }
def HistoryChecksCardSaid : Prop := Claim7.holds Tryd.pinned (.plain (OpenSpec.ofChange historyChecksSpec)) historyChecksCard

/-- THE SECOND FORM's CARD OF 'basinlaw26.HistoryChecks'. -/
def historyChecksUptoCard : Claim7 := { stood := { row := historyChecksUptoRow, standIns := [], harness := (true, "d536f93bf24a8a6414927e6b113dc89d83ffa86254f2f073bb1cd47e0fe82cd1"), looks := false }, kinds := [], alts := [], laidByText := true, laidKinds := [.data, .data, .data], laidTests := true, laidLooks := .later }
def HistoryChecksUptoCardSaid : Prop := Claim7.holds Tryd.pinned (.plain (OpenSpec.upto historyChecksSpec)) historyChecksUptoCard
end Rows
end Go.Proofs.YtkjlkjnlhogkiaaDoor
