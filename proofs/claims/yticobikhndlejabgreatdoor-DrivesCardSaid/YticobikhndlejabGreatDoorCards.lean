/-
  DERIVED. GIVEN WITH THE SEED: THE CARDS: each row of YticobikhndlejabGreatDoorRows.lean that lists a variable, with what it lists TIED to the program's text (the seventh form; the later family's looks); each row that meets fmt, with fmt's text TOLD by the authors' own Lean function (tested against real Go, not proved from fmt's source: count such statements apart). THE CARD IS WHAT COUNTS. Prove the row's statement (the work); the ties are given (YticobikhndlejabGreatDoorTie.lean); close each card by the builder's one call (the guide's Derived/Test/ToyasCard.lean, 'card_holds'). Laid BY PROGRAM, IN A SANDBOX (cutbox-door.mjs). By AI agents, Wed Nov 11 2026. No macro, syntax, notation, axiom, sorry.
-/
import Derived.Test.YticobikhndlejabGreatDoorRows
import GoSem.ClaimSeven
namespace Go.Proofs.YticobikhndlejabGreatDoor
namespace Rows

/-- THE TIED CARD OF 'elevatorlaw.Commands'. -/
def commandsCard : Claim7 := { stood := { row := commandsRow, standIns := [], harness := (true, "f5a0a7b8d2a49811953ca0788871f35131f323bd5b841135b0df57f2774f2c6d"), looks := true }, kinds := [], alts := [], goes := true, laidByText := true, laidKinds := [.handle], laidTests := true, laidLooks := .later }
def CommandsCardSaid : Prop := Claim7.holds Tryz.pinned (.plain (OpenSpec.ofChange commandsSpec)) commandsCard

/-- THE TIED CARD OF 'elevatorlaw.Answers'. -/
def answersCard : Claim7 := { stood := { row := answersRow, standIns := [], harness := (true, "f5a0a7b8d2a49811953ca0788871f35131f323bd5b841135b0df57f2774f2c6d"), looks := true }, kinds := [], alts := [], goes := true, laidByText := true, laidKinds := [.handle], laidTests := true, laidLooks := .later }
def AnswersCardSaid : Prop := Claim7.holds Tryz.pinned (.plain (OpenSpec.ofChange answersSpec)) answersCard

/-- THE TIED CARD OF 'elevatorlaw.Drives'. -/
def drivesCard : Claim7 := { stood := { row := drivesRow, standIns := [], harness := (true, "f5a0a7b8d2a49811953ca0788871f35131f323bd5b841135b0df57f2774f2c6d"), looks := true }, kinds := [], alts := [], goes := true, laidByText := true, laidKinds := [.handle], laidTests := true, laidLooks := .later }
def DrivesCardSaid : Prop := Claim7.holds Tryz.pinned (.plain (OpenSpec.ofChange drivesSpec)) drivesCard

/-- THE SECOND FORM's CARD OF 'elevatorlaw.Commands'. -/
def commandsUptoCard : Claim7 := { stood := { row := commandsUptoRow, standIns := [], harness := (true, "f5a0a7b8d2a49811953ca0788871f35131f323bd5b841135b0df57f2774f2c6d"), looks := true }, kinds := [], alts := [], goes := true, laidByText := true, laidKinds := [.handle], laidTests := true, laidLooks := .later }
def CommandsUptoCardSaid : Prop := Claim7.holds Tryz.pinned (.plain (OpenSpec.upto commandsSpec)) commandsUptoCard

/-- THE SECOND FORM's CARD OF 'elevatorlaw.Answers'. -/
def answersUptoCard : Claim7 := { stood := { row := answersUptoRow, standIns := [], harness := (true, "f5a0a7b8d2a49811953ca0788871f35131f323bd5b841135b0df57f2774f2c6d"), looks := true }, kinds := [], alts := [], goes := true, laidByText := true, laidKinds := [.handle], laidTests := true, laidLooks := .later }
def AnswersUptoCardSaid : Prop := Claim7.holds Tryz.pinned (.plain (OpenSpec.upto answersSpec)) answersUptoCard

/-- THE SECOND FORM's CARD OF 'elevatorlaw.Drives'. -/
def drivesUptoCard : Claim7 := { stood := { row := drivesUptoRow, standIns := [], harness := (true, "f5a0a7b8d2a49811953ca0788871f35131f323bd5b841135b0df57f2774f2c6d"), looks := true }, kinds := [], alts := [], goes := true, laidByText := true, laidKinds := [.handle], laidTests := true, laidLooks := .later }
def DrivesUptoCardSaid : Prop := Claim7.holds Tryz.pinned (.plain (OpenSpec.upto drivesSpec)) drivesUptoCard
end Rows
end Go.Proofs.YticobikhndlejabGreatDoor
