/-
  DERIVED. GIVEN WITH THE SEED: THE CARDS: each row of YticobikhndlejaaGreatDoorRows.lean that lists a variable, with what it lists TIED to the program's text (the seventh form; the later family's looks); each row that meets fmt, with fmt's text TOLD by the authors' own Lean function (tested against real Go, not proved from fmt's source: count such statements apart). THE CARD IS WHAT COUNTS. Prove the row's statement (the work); the ties are given (YticobikhndlejaaGreatDoorTie.lean); close each card by the builder's one call (the guide's Derived/Test/ToyasCard.lean, 'card_holds'). Laid BY PROGRAM, IN A SANDBOX (cutbox-door.mjs). By AI agents, Wed Nov 11 2026. No macro, syntax, notation, axiom, sorry.
-/
import Derived.Test.YticobikhndlejaaGreatDoorRows
import GoSem.ClaimSeven
namespace Go.Proofs.YticobikhndlejaaGreatDoor
namespace Rows

/-- THE TIED CARD OF 'elevatorlaw.Crashes'. -/
def crashesCard : Claim7 := { stood := { row := crashesRow, standIns := [], harness := (true, "0acec849edd0c83ebfd85034468611ec562c787b5f4964634e8c8ed0130c24e7"), looks := true }, kinds := [], alts := [], goes := true, laidByText := true, laidKinds := [.handle], laidTests := true, laidLooks := .later }
def CrashesCardSaid : Prop := Claim7.holds Tryz.pinned (.plain (OpenSpec.ofChange crashesSpec)) crashesCard

/-- THE TIED CARD OF 'elevatorlaw.All'. -/
def allCard : Claim7 := { stood := { row := allRow, standIns := [], harness := (true, "0acec849edd0c83ebfd85034468611ec562c787b5f4964634e8c8ed0130c24e7"), looks := true }, kinds := [], alts := [], goes := true, laidByText := true, laidKinds := [.handle], laidTests := true, laidLooks := .later }
def AllCardSaid : Prop := Claim7.holds Tryz.pinned (.plain (OpenSpec.ofChange allSpec)) allCard

/-- THE TIED CARD OF 'elevatorkeep.Given'. -/
def givenCard : Claim7 := { stood := { row := givenRow, standIns := [], harness := (true, "0acec849edd0c83ebfd85034468611ec562c787b5f4964634e8c8ed0130c24e7"), looks := true }, kinds := [], alts := [], goes := true, laidByText := true, laidKinds := [.handle], laidTests := true, laidLooks := .later }
def GivenCardSaid : Prop := Claim7.holds Tryz.pinned (.plain (OpenSpec.ofChange givenSpec)) givenCard

/-- THE TIED CARD OF 'elevatorkeep.Bounded'. -/
def boundedCard : Claim7 := { stood := { row := boundedRow, standIns := [], harness := (true, "0acec849edd0c83ebfd85034468611ec562c787b5f4964634e8c8ed0130c24e7"), looks := true }, kinds := [], alts := [], goes := true, laidByText := true, laidKinds := [.handle], laidTests := true, laidLooks := .later }
def BoundedCardSaid : Prop := Claim7.holds Tryz.pinned (.plain (OpenSpec.ofChange boundedSpec)) boundedCard

/-- THE TIED CARD OF 'elevatorkeep.Kept'. -/
def keptCard : Claim7 := { stood := { row := keptRow, standIns := [], harness := (true, "0acec849edd0c83ebfd85034468611ec562c787b5f4964634e8c8ed0130c24e7"), looks := true }, kinds := [], alts := [], goes := true, laidByText := true, laidKinds := [.handle], laidTests := true, laidLooks := .later }
def KeptCardSaid : Prop := Claim7.holds Tryz.pinned (.plain (OpenSpec.ofChange keptSpec)) keptCard

/-- THE TIED CARD OF 'elevatorkeep.Ordered'. -/
def orderedCard : Claim7 := { stood := { row := orderedRow, standIns := [], harness := (true, "0acec849edd0c83ebfd85034468611ec562c787b5f4964634e8c8ed0130c24e7"), looks := true }, kinds := [], alts := [], goes := true, laidByText := true, laidKinds := [.handle], laidTests := true, laidLooks := .later }
def OrderedCardSaid : Prop := Claim7.holds Tryz.pinned (.plain (OpenSpec.ofChange orderedSpec)) orderedCard

/-- THE TIED CARD OF 'elevatorkeep.Driven'. -/
def drivenCard : Claim7 := { stood := { row := drivenRow, standIns := [], harness := (true, "0acec849edd0c83ebfd85034468611ec562c787b5f4964634e8c8ed0130c24e7"), looks := true }, kinds := [], alts := [], goes := true, laidByText := true, laidKinds := [.handle], laidTests := true, laidLooks := .later }
def DrivenCardSaid : Prop := Claim7.holds Tryz.pinned (.plain (OpenSpec.ofChange drivenSpec)) drivenCard

/-- THE TIED CARD OF 'elevatorlaw.Queues'. -/
def queuesCard : Claim7 := { stood := { row := queuesRow, standIns := [], harness := (true, "0acec849edd0c83ebfd85034468611ec562c787b5f4964634e8c8ed0130c24e7"), looks := true }, kinds := [], alts := [], goes := true, laidByText := true, laidKinds := [.handle], laidTests := true, laidLooks := .later }
def QueuesCardSaid : Prop := Claim7.holds Tryz.pinned (.plain (OpenSpec.ofChange queuesSpec)) queuesCard

/-- THE SECOND FORM's CARD OF 'elevatorlaw.Crashes'. -/
def crashesUptoCard : Claim7 := { stood := { row := crashesUptoRow, standIns := [], harness := (true, "0acec849edd0c83ebfd85034468611ec562c787b5f4964634e8c8ed0130c24e7"), looks := true }, kinds := [], alts := [], goes := true, laidByText := true, laidKinds := [.handle], laidTests := true, laidLooks := .later }
def CrashesUptoCardSaid : Prop := Claim7.holds Tryz.pinned (.plain (OpenSpec.upto crashesSpec)) crashesUptoCard

/-- THE SECOND FORM's CARD OF 'elevatorlaw.All'. -/
def allUptoCard : Claim7 := { stood := { row := allUptoRow, standIns := [], harness := (true, "0acec849edd0c83ebfd85034468611ec562c787b5f4964634e8c8ed0130c24e7"), looks := true }, kinds := [], alts := [], goes := true, laidByText := true, laidKinds := [.handle], laidTests := true, laidLooks := .later }
def AllUptoCardSaid : Prop := Claim7.holds Tryz.pinned (.plain (OpenSpec.upto allSpec)) allUptoCard

/-- THE SECOND FORM's CARD OF 'elevatorkeep.Given'. -/
def givenUptoCard : Claim7 := { stood := { row := givenUptoRow, standIns := [], harness := (true, "0acec849edd0c83ebfd85034468611ec562c787b5f4964634e8c8ed0130c24e7"), looks := true }, kinds := [], alts := [], goes := true, laidByText := true, laidKinds := [.handle], laidTests := true, laidLooks := .later }
def GivenUptoCardSaid : Prop := Claim7.holds Tryz.pinned (.plain (OpenSpec.upto givenSpec)) givenUptoCard

/-- THE SECOND FORM's CARD OF 'elevatorkeep.Bounded'. -/
def boundedUptoCard : Claim7 := { stood := { row := boundedUptoRow, standIns := [], harness := (true, "0acec849edd0c83ebfd85034468611ec562c787b5f4964634e8c8ed0130c24e7"), looks := true }, kinds := [], alts := [], goes := true, laidByText := true, laidKinds := [.handle], laidTests := true, laidLooks := .later }
def BoundedUptoCardSaid : Prop := Claim7.holds Tryz.pinned (.plain (OpenSpec.upto boundedSpec)) boundedUptoCard

/-- THE SECOND FORM's CARD OF 'elevatorkeep.Kept'. -/
def keptUptoCard : Claim7 := { stood := { row := keptUptoRow, standIns := [], harness := (true, "0acec849edd0c83ebfd85034468611ec562c787b5f4964634e8c8ed0130c24e7"), looks := true }, kinds := [], alts := [], goes := true, laidByText := true, laidKinds := [.handle], laidTests := true, laidLooks := .later }
def KeptUptoCardSaid : Prop := Claim7.holds Tryz.pinned (.plain (OpenSpec.upto keptSpec)) keptUptoCard

/-- THE SECOND FORM's CARD OF 'elevatorkeep.Ordered'. -/
def orderedUptoCard : Claim7 := { stood := { row := orderedUptoRow, standIns := [], harness := (true, "0acec849edd0c83ebfd85034468611ec562c787b5f4964634e8c8ed0130c24e7"), looks := true }, kinds := [], alts := [], goes := true, laidByText := true, laidKinds := [.handle], laidTests := true, laidLooks := .later }
def OrderedUptoCardSaid : Prop := Claim7.holds Tryz.pinned (.plain (OpenSpec.upto orderedSpec)) orderedUptoCard

/-- THE SECOND FORM's CARD OF 'elevatorkeep.Driven'. -/
def drivenUptoCard : Claim7 := { stood := { row := drivenUptoRow, standIns := [], harness := (true, "0acec849edd0c83ebfd85034468611ec562c787b5f4964634e8c8ed0130c24e7"), looks := true }, kinds := [], alts := [], goes := true, laidByText := true, laidKinds := [.handle], laidTests := true, laidLooks := .later }
def DrivenUptoCardSaid : Prop := Claim7.holds Tryz.pinned (.plain (OpenSpec.upto drivenSpec)) drivenUptoCard

/-- THE SECOND FORM's CARD OF 'elevatorlaw.Queues'. -/
def queuesUptoCard : Claim7 := { stood := { row := queuesUptoRow, standIns := [], harness := (true, "0acec849edd0c83ebfd85034468611ec562c787b5f4964634e8c8ed0130c24e7"), looks := true }, kinds := [], alts := [], goes := true, laidByText := true, laidKinds := [.handle], laidTests := true, laidLooks := .later }
def QueuesUptoCardSaid : Prop := Claim7.holds Tryz.pinned (.plain (OpenSpec.upto queuesSpec)) queuesUptoCard
end Rows
end Go.Proofs.YticobikhndlejaaGreatDoor
