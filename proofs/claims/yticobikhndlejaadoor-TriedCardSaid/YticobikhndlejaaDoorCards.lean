/-
  DERIVED. GIVEN WITH THE SEED: THE CARDS: each row of YticobikhndlejaaDoorRows.lean that lists a variable, with what it lists TIED to the program's text (the seventh form; the later family's looks); each row that meets fmt, with fmt's text TOLD by the authors' own Lean function (tested against real Go, not proved from fmt's source: count such statements apart). THE CARD IS WHAT COUNTS. Prove the row's statement (the work); the ties are given (YticobikhndlejaaDoorTie.lean); close each card by the builder's one call (the guide's Derived/Test/ToyasCard.lean, 'card_holds'). Laid BY PROGRAM, IN A SANDBOX (cutbox-door.mjs). By AI agents, Wed Nov 11 2026. No macro, syntax, notation, axiom, sorry.
-/
import Derived.Test.YticobikhndlejaaDoorRows
import GoSem.ClaimSeven
namespace Go.Proofs.YticobikhndlejaaDoor
namespace Rows

/-- THE TIED CARD OF 'elevatorlaw.Names'. -/
def namesCard : Claim7 := { stood := { row := namesRow, standIns := [], harness := (true, "667f4eda721935d0c8e621617810212db5d943b4ec121e17a1e8156827de7e11"), looks := true }, kinds := [], alts := [], laidByText := true, laidKinds := [.handle], laidTests := true, laidLooks := .later }
def NamesCardSaid : Prop := Claim7.holds Tryd.pinned (.plain (OpenSpec.ofChange namesSpec)) namesCard

/-- THE TIED CARD OF 'elevatorkeep.Swept'. -/
def sweptCard : Claim7 := { stood := { row := sweptRow, standIns := [], harness := (true, "667f4eda721935d0c8e621617810212db5d943b4ec121e17a1e8156827de7e11"), looks := true }, kinds := [], alts := [], laidByText := true, laidKinds := [.handle], laidTests := true, laidLooks := .later }
def SweptCardSaid : Prop := Claim7.holds Tryd.pinned (.plain (OpenSpec.ofChange sweptSpec)) sweptCard

/-- THE TIED CARD OF 'elevatorkeep.Joined'. -/
def joinedCard : Claim7 := { stood := { row := joinedRow, standIns := [], harness := (true, "667f4eda721935d0c8e621617810212db5d943b4ec121e17a1e8156827de7e11"), looks := true }, kinds := [], alts := [], laidByText := true, laidKinds := [.handle], laidTests := true, laidLooks := .later }
def JoinedCardSaid : Prop := Claim7.holds Tryd.pinned (.plain (OpenSpec.ofChange joinedSpec)) joinedCard

/-- THE TIED CARD OF 'elevatorkeep.Tried'. -/
def triedCard : Claim7 := { stood := { row := triedRow, standIns := [], harness := (true, "667f4eda721935d0c8e621617810212db5d943b4ec121e17a1e8156827de7e11"), looks := true }, kinds := [], alts := [], laidByText := true, laidKinds := [.handle], laidTests := true, laidLooks := .later }
def TriedCardSaid : Prop := Claim7.holds Tryd.pinned (.plain (OpenSpec.ofChange triedSpec)) triedCard

/-- THE SECOND FORM's CARD OF 'elevatorlaw.Names'. -/
def namesUptoCard : Claim7 := { stood := { row := namesUptoRow, standIns := [], harness := (true, "667f4eda721935d0c8e621617810212db5d943b4ec121e17a1e8156827de7e11"), looks := true }, kinds := [], alts := [], laidByText := true, laidKinds := [.handle], laidTests := true, laidLooks := .later }
def NamesUptoCardSaid : Prop := Claim7.holds Tryd.pinned (.plain (OpenSpec.upto namesSpec)) namesUptoCard

/-- THE SECOND FORM's CARD OF 'elevatorkeep.Swept'. -/
def sweptUptoCard : Claim7 := { stood := { row := sweptUptoRow, standIns := [], harness := (true, "667f4eda721935d0c8e621617810212db5d943b4ec121e17a1e8156827de7e11"), looks := true }, kinds := [], alts := [], laidByText := true, laidKinds := [.handle], laidTests := true, laidLooks := .later }
def SweptUptoCardSaid : Prop := Claim7.holds Tryd.pinned (.plain (OpenSpec.upto sweptSpec)) sweptUptoCard

/-- THE SECOND FORM's CARD OF 'elevatorkeep.Joined'. -/
def joinedUptoCard : Claim7 := { stood := { row := joinedUptoRow, standIns := [], harness := (true, "667f4eda721935d0c8e621617810212db5d943b4ec121e17a1e8156827de7e11"), looks := true }, kinds := [], alts := [], laidByText := true, laidKinds := [.handle], laidTests := true, laidLooks := .later }
def JoinedUptoCardSaid : Prop := Claim7.holds Tryd.pinned (.plain (OpenSpec.upto joinedSpec)) joinedUptoCard

/-- THE SECOND FORM's CARD OF 'elevatorkeep.Tried'. -/
def triedUptoCard : Claim7 := { stood := { row := triedUptoRow, standIns := [], harness := (true, "667f4eda721935d0c8e621617810212db5d943b4ec121e17a1e8156827de7e11"), looks := true }, kinds := [], alts := [], laidByText := true, laidKinds := [.handle], laidTests := true, laidLooks := .later }
def TriedUptoCardSaid : Prop := Claim7.holds Tryd.pinned (.plain (OpenSpec.upto triedSpec)) triedUptoCard
end Rows
end Go.Proofs.YticobikhndlejaaDoor
