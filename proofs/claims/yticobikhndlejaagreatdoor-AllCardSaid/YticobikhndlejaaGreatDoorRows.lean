/-
  NARROWER THAN 'FOR EVERY INPUT', by the rows' own cells (each row's printed sentence says how): Crashes: laid · All: laid · Given: laid · Bounded: laid · Kept: laid · Ordered: laid · Driven: laid · Queues: laid.
  DERIVED. THE GIVEN ROWS OF THIS SEAT. 8 by the template 'for every input the law returns true; each argument reads behind the call as it read before'; 0 by the template 'total and deterministic' (their statements: YticobikhndlejaaGreatDoorTotals.lean).
  GIVEN WITH THE SEED: the statements are not yours to turn. If you find one false, say at which input.
  Laid BY PROGRAM, IN A SANDBOX (cutbox-rows.mjs): the forced cells as the released guide's own fill.sh prints them over the translation 1f4f978cb1daf1c7… (all of the seat's roots in one cut). By AI agents, Wed Nov 11 2026. No macro, syntax, notation, axiom, sorry.
-/
import Derived.Test.YticobikhndlejaaGreatDoorChecked
import GoSem.Claim
import GoSem.ClaimJoined
import GoSem.ClaimMapViews
import Derived.JoinedTies
import Derived.KernelRfl
namespace Go.Proofs.YticobikhndlejaaGreatDoor
/- THE CELL 'sum', in the pinned program and in every row, IS THE sha256 OF THE DUMP (.gsa) THAT YticobikhndlejaaGreatDoorProg.lean LOADS. Nothing in Lean hashes anything: it is a label: what it is worth is what the hold of that sum in a sandbox is worth. -/
noncomputable def Tryz.pinned : Pinned := { name := "yticobikhndlejaagreatdoor", sum := "1f4f978cb1daf1c7e0f7c04de169c6e56123f8eecd38f580b666c799d5df718c", checked := Tryz.checked }
namespace Rows
def none {H : Type} : Left H := { results := [], args := [] }

/- WHAT THE LISTED PACKAGE-LEVEL VARIABLES READ AS WHEN THE CALL BEGINS. Each datum BY PROGRAM (the guide's laid-datum.mjs) off the statement by which the dump's own 'gosem.cut.vars' lays the variable. In a bare row this is a premise. The card (YticobikhndlejaaGreatDoorCards.lean) ties it to the program's text. -/
def laid_errors_errorType {H : Type} : DataW H := .iface "internal/reflectlite.rtype" (.agg [.ptr (.lit (.string [101, 114, 114, 111, 114]))])

/-- 'elevatorlaw.Crashes': WHATEVER THE INPUT: true; the input reads as it did. -/
def crashesSpec : ChangeSpec := { name := "crashes", fn := fun _ => fun
  | [d] => { results := [.lit (.bool true)], args := [d] }
  | _ => none }
def crashesRow : OpenClaim := { program := "yticobikhndlejaagreatdoor", sum := "1f4f978cb1daf1c7e0f7c04de169c6e56123f8eecd38f580b666c799d5df718c", func := "elevator/elevatorlaw.Crashes", spec := "crashes", inPlace := ["internal/reflectlite.ValueOf", "(internal/reflectlite.Value).Type", "(internal/reflectlite.Value).IsNil", "internal/reflectlite.TypeOf", "(internal/reflectlite.Value).Elem", "(internal/reflectlite.Value).Set"], unfollowed := true, recurses := true, named := ["errors.errorType"], leaving := true, apart := false, laid := [("errors.errorType", laid_errors_errorType)] }
def CrashesSaid : Prop := crashesRow.holds Tryz.pinned (OpenSpec.ofChange crashesSpec)

/-- ITS FALSE NEIGHBOUR: 'it returns false'. Refute it at one input. -/
def crashesWrong : ChangeSpec := { name := "crashes", fn := fun _ => fun
  | [d] => { results := [.lit (.bool false)], args := [d] }
  | _ => none }
def CrashesWrongFalsely : Prop := crashesRow.holds Tryz.pinned (OpenSpec.ofChange crashesWrong)

/-- 'elevatorlaw.All': WHATEVER THE INPUT: true; the input reads as it did. -/
def allSpec : ChangeSpec := { name := "all", fn := fun _ => fun
  | [d] => { results := [.lit (.bool true)], args := [d] }
  | _ => none }
def allRow : OpenClaim := { program := "yticobikhndlejaagreatdoor", sum := "1f4f978cb1daf1c7e0f7c04de169c6e56123f8eecd38f580b666c799d5df718c", func := "elevator/elevatorlaw.All", spec := "all", inPlace := ["internal/reflectlite.ValueOf", "(internal/reflectlite.Value).Type", "(internal/reflectlite.Value).IsNil", "internal/reflectlite.TypeOf", "(internal/reflectlite.Value).Elem", "(internal/reflectlite.Value).Set"], unfollowed := true, recurses := true, named := ["errors.errorType"], leaving := true, apart := false, laid := [("errors.errorType", laid_errors_errorType)] }
def AllSaid : Prop := allRow.holds Tryz.pinned (OpenSpec.ofChange allSpec)

/-- ITS FALSE NEIGHBOUR: 'it returns false'. Refute it at one input. -/
def allWrong : ChangeSpec := { name := "all", fn := fun _ => fun
  | [d] => { results := [.lit (.bool false)], args := [d] }
  | _ => none }
def AllWrongFalsely : Prop := allRow.holds Tryz.pinned (OpenSpec.ofChange allWrong)

/-- 'elevatorkeep.Given': WHATEVER THE INPUT: true; the input reads as it did. -/
def givenSpec : ChangeSpec := { name := "given", fn := fun _ => fun
  | [d1, d2, d3] => { results := [.lit (.bool true)], args := [d1, d2, d3] }
  | _ => none }
def givenRow : OpenClaim := { program := "yticobikhndlejaagreatdoor", sum := "1f4f978cb1daf1c7e0f7c04de169c6e56123f8eecd38f580b666c799d5df718c", func := "elevator/elevatorkeep.Given", spec := "given", inPlace := ["internal/reflectlite.ValueOf", "(internal/reflectlite.Value).Type", "(internal/reflectlite.Value).IsNil", "internal/reflectlite.TypeOf", "(internal/reflectlite.Value).Elem", "(internal/reflectlite.Value).Set"], unfollowed := true, recurses := true, named := ["errors.errorType"], leaving := true, apart := false, laid := [("errors.errorType", laid_errors_errorType)] }
def GivenSaid : Prop := givenRow.holds Tryz.pinned (OpenSpec.ofChange givenSpec)

/-- ITS FALSE NEIGHBOUR: 'it returns false'. Refute it at one input. -/
def givenWrong : ChangeSpec := { name := "given", fn := fun _ => fun
  | [d1, d2, d3] => { results := [.lit (.bool false)], args := [d1, d2, d3] }
  | _ => none }
def GivenWrongFalsely : Prop := givenRow.holds Tryz.pinned (OpenSpec.ofChange givenWrong)

/-- 'elevatorkeep.Bounded': WHATEVER THE INPUT: true; the input reads as it did. -/
def boundedSpec : ChangeSpec := { name := "bounded", fn := fun _ => fun
  | [d1, d2] => { results := [.lit (.bool true)], args := [d1, d2] }
  | _ => none }
def boundedRow : OpenClaim := { program := "yticobikhndlejaagreatdoor", sum := "1f4f978cb1daf1c7e0f7c04de169c6e56123f8eecd38f580b666c799d5df718c", func := "elevator/elevatorkeep.Bounded", spec := "bounded", inPlace := ["internal/reflectlite.ValueOf", "(internal/reflectlite.Value).Type", "(internal/reflectlite.Value).IsNil", "internal/reflectlite.TypeOf", "(internal/reflectlite.Value).Elem", "(internal/reflectlite.Value).Set"], unfollowed := true, recurses := true, named := ["errors.errorType"], leaving := true, apart := false, laid := [("errors.errorType", laid_errors_errorType)] }
def BoundedSaid : Prop := boundedRow.holds Tryz.pinned (OpenSpec.ofChange boundedSpec)

/-- ITS FALSE NEIGHBOUR: 'it returns false'. Refute it at one input. -/
def boundedWrong : ChangeSpec := { name := "bounded", fn := fun _ => fun
  | [d1, d2] => { results := [.lit (.bool false)], args := [d1, d2] }
  | _ => none }
def BoundedWrongFalsely : Prop := boundedRow.holds Tryz.pinned (OpenSpec.ofChange boundedWrong)

/-- 'elevatorkeep.Kept': WHATEVER THE INPUT: true; the input reads as it did. -/
def keptSpec : ChangeSpec := { name := "kept", fn := fun _ => fun
  | [d1, d2, d3] => { results := [.lit (.bool true)], args := [d1, d2, d3] }
  | _ => none }
def keptRow : OpenClaim := { program := "yticobikhndlejaagreatdoor", sum := "1f4f978cb1daf1c7e0f7c04de169c6e56123f8eecd38f580b666c799d5df718c", func := "elevator/elevatorkeep.Kept", spec := "kept", inPlace := ["internal/reflectlite.ValueOf", "(internal/reflectlite.Value).Type", "(internal/reflectlite.Value).IsNil", "internal/reflectlite.TypeOf", "(internal/reflectlite.Value).Elem", "(internal/reflectlite.Value).Set"], unfollowed := true, recurses := true, named := ["errors.errorType"], leaving := true, apart := false, laid := [("errors.errorType", laid_errors_errorType)] }
def KeptSaid : Prop := keptRow.holds Tryz.pinned (OpenSpec.ofChange keptSpec)

/-- ITS FALSE NEIGHBOUR: 'it returns false'. Refute it at one input. -/
def keptWrong : ChangeSpec := { name := "kept", fn := fun _ => fun
  | [d1, d2, d3] => { results := [.lit (.bool false)], args := [d1, d2, d3] }
  | _ => none }
def KeptWrongFalsely : Prop := keptRow.holds Tryz.pinned (OpenSpec.ofChange keptWrong)

/-- 'elevatorkeep.Ordered': WHATEVER THE INPUT: true; the input reads as it did. -/
def orderedSpec : ChangeSpec := { name := "ordered", fn := fun _ => fun
  | [d1, d2] => { results := [.lit (.bool true)], args := [d1, d2] }
  | _ => none }
def orderedRow : OpenClaim := { program := "yticobikhndlejaagreatdoor", sum := "1f4f978cb1daf1c7e0f7c04de169c6e56123f8eecd38f580b666c799d5df718c", func := "elevator/elevatorkeep.Ordered", spec := "ordered", inPlace := ["internal/reflectlite.ValueOf", "(internal/reflectlite.Value).Type", "(internal/reflectlite.Value).IsNil", "internal/reflectlite.TypeOf", "(internal/reflectlite.Value).Elem", "(internal/reflectlite.Value).Set"], unfollowed := true, recurses := true, named := ["errors.errorType"], leaving := true, apart := false, laid := [("errors.errorType", laid_errors_errorType)] }
def OrderedSaid : Prop := orderedRow.holds Tryz.pinned (OpenSpec.ofChange orderedSpec)

/-- ITS FALSE NEIGHBOUR: 'it returns false'. Refute it at one input. -/
def orderedWrong : ChangeSpec := { name := "ordered", fn := fun _ => fun
  | [d1, d2] => { results := [.lit (.bool false)], args := [d1, d2] }
  | _ => none }
def OrderedWrongFalsely : Prop := orderedRow.holds Tryz.pinned (OpenSpec.ofChange orderedWrong)

/-- 'elevatorkeep.Driven': WHATEVER THE INPUT: true; the input reads as it did. -/
def drivenSpec : ChangeSpec := { name := "driven", fn := fun _ => fun
  | [d1, d2, d3] => { results := [.lit (.bool true)], args := [d1, d2, d3] }
  | _ => none }
def drivenRow : OpenClaim := { program := "yticobikhndlejaagreatdoor", sum := "1f4f978cb1daf1c7e0f7c04de169c6e56123f8eecd38f580b666c799d5df718c", func := "elevator/elevatorkeep.Driven", spec := "driven", inPlace := ["internal/reflectlite.ValueOf", "(internal/reflectlite.Value).Type", "(internal/reflectlite.Value).IsNil", "internal/reflectlite.TypeOf", "(internal/reflectlite.Value).Elem", "(internal/reflectlite.Value).Set"], unfollowed := true, recurses := true, named := ["errors.errorType"], leaving := true, apart := false, laid := [("errors.errorType", laid_errors_errorType)] }
def DrivenSaid : Prop := drivenRow.holds Tryz.pinned (OpenSpec.ofChange drivenSpec)

/-- ITS FALSE NEIGHBOUR: 'it returns false'. Refute it at one input. -/
def drivenWrong : ChangeSpec := { name := "driven", fn := fun _ => fun
  | [d1, d2, d3] => { results := [.lit (.bool false)], args := [d1, d2, d3] }
  | _ => none }
def DrivenWrongFalsely : Prop := drivenRow.holds Tryz.pinned (OpenSpec.ofChange drivenWrong)

/-- 'elevatorlaw.Queues': WHATEVER THE INPUT: true; the input reads as it did. -/
def queuesSpec : ChangeSpec := { name := "queues", fn := fun _ => fun
  | [d] => { results := [.lit (.bool true)], args := [d] }
  | _ => none }
def queuesRow : OpenClaim := { program := "yticobikhndlejaagreatdoor", sum := "1f4f978cb1daf1c7e0f7c04de169c6e56123f8eecd38f580b666c799d5df718c", func := "elevator/elevatorlaw.Queues", spec := "queues", inPlace := ["internal/reflectlite.ValueOf", "(internal/reflectlite.Value).Type", "(internal/reflectlite.Value).IsNil", "internal/reflectlite.TypeOf", "(internal/reflectlite.Value).Elem", "(internal/reflectlite.Value).Set"], unfollowed := true, recurses := true, named := ["errors.errorType"], leaving := true, apart := false, laid := [("errors.errorType", laid_errors_errorType)] }
def QueuesSaid : Prop := queuesRow.holds Tryz.pinned (OpenSpec.ofChange queuesSpec)

/-- ITS FALSE NEIGHBOUR: 'it returns false'. Refute it at one input. -/
def queuesWrong : ChangeSpec := { name := "queues", fn := fun _ => fun
  | [d] => { results := [.lit (.bool false)], args := [d] }
  | _ => none }
def QueuesWrongFalsely : Prop := queuesRow.holds Tryz.pinned (OpenSpec.ofChange queuesWrong)

/- THE SECOND FORM. 'bulk': how many values and letters a reading holds, each counted each time it is reached (what is shared counts as often as it is met; a slice's spare places count too). A statement '..UptoSaid' is the law's where the arguments, and the package variables that the reading takes, are together of bulk at most 1048576: NARROWER than '..Said'. Prove '..Said' where nothing that the law and all that it calls make is longer than what came in: it says more and counts as full. Else prove '..UptoSaid'. A law counts once. -/
mutual
def uptoBulk {H : Type} : DataW H → Nat
  | .lit (.string bytes) => bytes.length + 1
  | .lit _ => 1
  | .nil => 1
  | .ptr d => uptoBulk d + 1
  | .slice elems spare => uptoBulkAll elems + uptoBulkAll spare + 1
  | .agg parts => uptoBulkAll parts + 1
  | .iface _ d => uptoBulk d + 1
  | .map entries => uptoBulkEntries entries + 1
  | .held _ => 1
def uptoBulkAll {H : Type} : List (DataW H) → Nat
  | [] => 0
  | d :: r => uptoBulk d + uptoBulkAll r
def uptoBulkEntries {H : Type} : List (Lit × DataW H) → Nat
  | [] => 0
  | x :: r => uptoBulkEntry x + uptoBulkEntries r
def uptoBulkEntry {H : Type} : Lit × DataW H → Nat
  | (.string bytes, d) => bytes.length + uptoBulk d + 1
  | (_, d) => uptoBulk d + 1
 end
def uptoSmall : (H : Type) → List (DataW H) → Bool := fun _ ds => decide (uptoBulkAll ds ≤ 1048576)
def OpenSpec.upto (s : _root_.Go.ChangeSpec) : _root_.Go.OpenSpec := { _root_.Go.OpenSpec.ofChange s with cond := some uptoSmall }

/-- 'elevatorlaw.Crashes', WHERE WHAT IT READS IS OF BULK AT MOST 1048576: true; the input reads as it did. -/
def crashesUptoRow : OpenClaim := { program := "yticobikhndlejaagreatdoor", sum := "1f4f978cb1daf1c7e0f7c04de169c6e56123f8eecd38f580b666c799d5df718c", func := "elevator/elevatorlaw.Crashes", spec := "crashes", inPlace := ["internal/reflectlite.ValueOf", "(internal/reflectlite.Value).Type", "(internal/reflectlite.Value).IsNil", "internal/reflectlite.TypeOf", "(internal/reflectlite.Value).Elem", "(internal/reflectlite.Value).Set"], unfollowed := true, recurses := true, named := ["errors.errorType"], leaving := true, apart := false, laid := [("errors.errorType", laid_errors_errorType)], narrowed := true }
def CrashesUptoSaid : Prop := crashesUptoRow.holds Tryz.pinned (OpenSpec.upto crashesSpec)

/-- 'elevatorlaw.All', WHERE WHAT IT READS IS OF BULK AT MOST 1048576: true; the input reads as it did. -/
def allUptoRow : OpenClaim := { program := "yticobikhndlejaagreatdoor", sum := "1f4f978cb1daf1c7e0f7c04de169c6e56123f8eecd38f580b666c799d5df718c", func := "elevator/elevatorlaw.All", spec := "all", inPlace := ["internal/reflectlite.ValueOf", "(internal/reflectlite.Value).Type", "(internal/reflectlite.Value).IsNil", "internal/reflectlite.TypeOf", "(internal/reflectlite.Value).Elem", "(internal/reflectlite.Value).Set"], unfollowed := true, recurses := true, named := ["errors.errorType"], leaving := true, apart := false, laid := [("errors.errorType", laid_errors_errorType)], narrowed := true }
def AllUptoSaid : Prop := allUptoRow.holds Tryz.pinned (OpenSpec.upto allSpec)

/-- 'elevatorkeep.Given', WHERE WHAT IT READS IS OF BULK AT MOST 1048576: true; the input reads as it did. -/
def givenUptoRow : OpenClaim := { program := "yticobikhndlejaagreatdoor", sum := "1f4f978cb1daf1c7e0f7c04de169c6e56123f8eecd38f580b666c799d5df718c", func := "elevator/elevatorkeep.Given", spec := "given", inPlace := ["internal/reflectlite.ValueOf", "(internal/reflectlite.Value).Type", "(internal/reflectlite.Value).IsNil", "internal/reflectlite.TypeOf", "(internal/reflectlite.Value).Elem", "(internal/reflectlite.Value).Set"], unfollowed := true, recurses := true, named := ["errors.errorType"], leaving := true, apart := false, laid := [("errors.errorType", laid_errors_errorType)], narrowed := true }
def GivenUptoSaid : Prop := givenUptoRow.holds Tryz.pinned (OpenSpec.upto givenSpec)

/-- 'elevatorkeep.Bounded', WHERE WHAT IT READS IS OF BULK AT MOST 1048576: true; the input reads as it did. -/
def boundedUptoRow : OpenClaim := { program := "yticobikhndlejaagreatdoor", sum := "1f4f978cb1daf1c7e0f7c04de169c6e56123f8eecd38f580b666c799d5df718c", func := "elevator/elevatorkeep.Bounded", spec := "bounded", inPlace := ["internal/reflectlite.ValueOf", "(internal/reflectlite.Value).Type", "(internal/reflectlite.Value).IsNil", "internal/reflectlite.TypeOf", "(internal/reflectlite.Value).Elem", "(internal/reflectlite.Value).Set"], unfollowed := true, recurses := true, named := ["errors.errorType"], leaving := true, apart := false, laid := [("errors.errorType", laid_errors_errorType)], narrowed := true }
def BoundedUptoSaid : Prop := boundedUptoRow.holds Tryz.pinned (OpenSpec.upto boundedSpec)

/-- 'elevatorkeep.Kept', WHERE WHAT IT READS IS OF BULK AT MOST 1048576: true; the input reads as it did. -/
def keptUptoRow : OpenClaim := { program := "yticobikhndlejaagreatdoor", sum := "1f4f978cb1daf1c7e0f7c04de169c6e56123f8eecd38f580b666c799d5df718c", func := "elevator/elevatorkeep.Kept", spec := "kept", inPlace := ["internal/reflectlite.ValueOf", "(internal/reflectlite.Value).Type", "(internal/reflectlite.Value).IsNil", "internal/reflectlite.TypeOf", "(internal/reflectlite.Value).Elem", "(internal/reflectlite.Value).Set"], unfollowed := true, recurses := true, named := ["errors.errorType"], leaving := true, apart := false, laid := [("errors.errorType", laid_errors_errorType)], narrowed := true }
def KeptUptoSaid : Prop := keptUptoRow.holds Tryz.pinned (OpenSpec.upto keptSpec)

/-- 'elevatorkeep.Ordered', WHERE WHAT IT READS IS OF BULK AT MOST 1048576: true; the input reads as it did. -/
def orderedUptoRow : OpenClaim := { program := "yticobikhndlejaagreatdoor", sum := "1f4f978cb1daf1c7e0f7c04de169c6e56123f8eecd38f580b666c799d5df718c", func := "elevator/elevatorkeep.Ordered", spec := "ordered", inPlace := ["internal/reflectlite.ValueOf", "(internal/reflectlite.Value).Type", "(internal/reflectlite.Value).IsNil", "internal/reflectlite.TypeOf", "(internal/reflectlite.Value).Elem", "(internal/reflectlite.Value).Set"], unfollowed := true, recurses := true, named := ["errors.errorType"], leaving := true, apart := false, laid := [("errors.errorType", laid_errors_errorType)], narrowed := true }
def OrderedUptoSaid : Prop := orderedUptoRow.holds Tryz.pinned (OpenSpec.upto orderedSpec)

/-- 'elevatorkeep.Driven', WHERE WHAT IT READS IS OF BULK AT MOST 1048576: true; the input reads as it did. -/
def drivenUptoRow : OpenClaim := { program := "yticobikhndlejaagreatdoor", sum := "1f4f978cb1daf1c7e0f7c04de169c6e56123f8eecd38f580b666c799d5df718c", func := "elevator/elevatorkeep.Driven", spec := "driven", inPlace := ["internal/reflectlite.ValueOf", "(internal/reflectlite.Value).Type", "(internal/reflectlite.Value).IsNil", "internal/reflectlite.TypeOf", "(internal/reflectlite.Value).Elem", "(internal/reflectlite.Value).Set"], unfollowed := true, recurses := true, named := ["errors.errorType"], leaving := true, apart := false, laid := [("errors.errorType", laid_errors_errorType)], narrowed := true }
def DrivenUptoSaid : Prop := drivenUptoRow.holds Tryz.pinned (OpenSpec.upto drivenSpec)

/-- 'elevatorlaw.Queues', WHERE WHAT IT READS IS OF BULK AT MOST 1048576: true; the input reads as it did. -/
def queuesUptoRow : OpenClaim := { program := "yticobikhndlejaagreatdoor", sum := "1f4f978cb1daf1c7e0f7c04de169c6e56123f8eecd38f580b666c799d5df718c", func := "elevator/elevatorlaw.Queues", spec := "queues", inPlace := ["internal/reflectlite.ValueOf", "(internal/reflectlite.Value).Type", "(internal/reflectlite.Value).IsNil", "internal/reflectlite.TypeOf", "(internal/reflectlite.Value).Elem", "(internal/reflectlite.Value).Set"], unfollowed := true, recurses := true, named := ["errors.errorType"], leaving := true, apart := false, laid := [("errors.errorType", laid_errors_errorType)], narrowed := true }
def QueuesUptoSaid : Prop := queuesUptoRow.holds Tryz.pinned (OpenSpec.upto queuesSpec)

end Rows
end Go.Proofs.YticobikhndlejaaGreatDoor
