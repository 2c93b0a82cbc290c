/-
  PROVED: elevatorkeep.Tried returns true, whatever its three numbers are, and turns nothing that was there.
  Conditions: none but the row's own (errors.errorType holds the handle of the type 'error', which the card ties to the program's text).
-/
import Derived.Test.YticobikhndlejaaDoorTried
import Derived.Test.YticobikhndlejaaDoorLaid
import Derived.Test.YticobikhndlejaaDoorCards
import Derived.Test.YticobikhndlejaaDoorTie
import Derived.ProofKit
import Derived.SevenTiedAt
import Derived.OpenShut
namespace Go.Proofs.YticobikhndlejaaDoor
open Go.ChangeShapes Go.WideShapes Go.RowKit

set_option maxRecDepth 100000 in
theorem tried_lifted (os : Os) (started : os.Started) (H : Type) (enc : TypeId × Value → H) :
    ReturnsInHanded {} Tryd.checked os 6 .any (fun w args => (Rows.triedSpec.pre enc Tryd.prog Tryd.f6 [] false w args ∧ laidMetH Tryd.prog laidL w) ∧ sizedMet enc Tryd.prog Tryd.f6 (OpenSpec.ofChange Rows.triedSpec) false w args)
      (Rows.triedSpec.post enc Tryd.prog Tryd.f6 false true false false) := by
  refine returnsInHanded_of_change_and (C := Tryd.checked) (X := fun w _ => laidMetH Tryd.prog laidL w) (fun _ _ _ hh h => h.of_heap hh) Tryd.own started (by kernel_rfl) Tryd.func6
    (ChangeSpec.witness_at (enc := enc) (C := Tryd.checked) (os := os) (X := fun w _ => laidMetH Tryd.prog laidL w) false (laidWorld os) #[.int .i64 0, .int .i64 0, .int .i64 0] 8 rfl (by kernel_rfl) (by kernel_rfl) (by kernel_rfl) (by kernel_rfl) (by kernel_rfl) (laidWorld_met os _)) ?_
  intro W base args ds gs before hval0 hW _ _ hL _
  have hval : ∀ (j : Nat) t v, Tryd.f6.params[j]? = some t → args[j]? = some v → Value.okWide Tryd.prog W .any base t v := hval0
  have hW' := hW
  obtain ⟨p, q, hA0, hV0, rfl, hfz, hnd⟩ := hW
  have hA : DataW.TrodAll enc Tryd.prog W 0 (fun _ => true) true Tryd.f6.params.toList args.toList ds p := hA0
  have hV : DataW.TrodVars enc Tryd.prog W (fun _ => true) [] gs q := hV0
  rw [Tryd.params6] at hA hval
  obtain ⟨v0, v1, v2, d0, d1, d2, p0, p1, p2, rfl, rfl, rfl, h0, h1, h2⟩ := trodAll_three hA
  obtain ⟨x0, rfl, rfl, rfl, wx0⟩ := open_int Tryd.underlying3 (hval 0 3 v0 rfl rfl) h0
  obtain ⟨x1, rfl, rfl, rfl, wx1⟩ := open_int Tryd.underlying3 (hval 1 3 v1 rfl rfl) h1
  obtain ⟨x2, rfl, rfl, rfl, wx2⟩ := open_int Tryd.underlying3 (hval 2 3 v2 rfl rfl) h2
  have hg := handle_of_laid hL
  obtain ⟨rfl, rfl⟩ := trodVars_none hV
  have e1 : Rows.triedSpec.fn H ([.lit (.int .i64 x0), .lit (.int .i64 x1), .lit (.int .i64 x2)] ++ []) = { results := [.lit (.bool true)], args := [.lit (.int .i64 x0), .lit (.int .i64 x1), .lit (.int .i64 x2)] } := by simp [Rows.triedSpec]
  refine (tried_true x0 x1 x2 W hg (bounds_i64 wx0) (bounds_i64 wx1) (bounds_i64 wx2)).mono fun e W' ⟨he, hw⟩ => ?_
  subst he
  refine ⟨_, rfl, _, _, _, [], [], [], hW', ?_, ?_, ?_, hw.frame _, fun h => by cases h⟩
  · rw [e1]; exact trodAll_mk1 (shut_bool Tryd.underlying4 true)
  · rw [e1]; exact trodAll_mk3 (shut_int Tryd.underlying3 wx0) (shut_int Tryd.underlying3 wx1) (shut_int Tryd.underlying3 wx2)
  · rw [e1]; rfl

theorem tried_said : Rows.TriedSaid :=
  OpenClaim.holds_of_wide 6 Tryd.f6 rfl rfl rfl rfl rfl rfl rfl ⟨rfl, rfl, rfl, rfl, rfl⟩ rfl rfl rfl rfl rfl (by kernel_rfl) Tryd.func6 (by kernel_rfl)
    (of_decide_eq_true (by kernel_rfl)) (by unfold Func.isWrapper; rw [if_neg (of_decide_eq_false (by kernel_rfl))]; exact ⟨rfl, rfl⟩)
    (fun os started H enc _ => tried_lifted os started H enc)

theorem tried_plain (f : FuncId) (fn : Func) (hf : Tryd.pinned.checked.prog.funcNamed "elevator/elevatorkeep.Tried" = some f) (hfn : Tryd.pinned.checked.prog.funcs[f]? = some fn) :
    true = Tryd.pinned.checked.prog.looks [] ∧ ∀ (j : Nat) t, fn.params[j]? = some t → Tryd.pinned.checked.prog.wantsStandIn t = false := by
  obtain rfl : f = 6 := Option.some.inj ((show Tryd.prog.funcNamed "elevator/elevatorkeep.Tried" = some 6 by kernel_rfl).symm.trans hf) |>.symm
  obtain rfl : fn = Tryd.f6 := (Option.some.inj (Tryd.func6.symm.trans hfn)).symm
  refine ⟨by kernel_rfl, fun j t ht => ?_⟩
  rw [Tryd.params6] at ht
  have hn : Tryd.pinned.checked.prog.wantsStandIn 3 = false := by kernel_rfl
  match j, ht with
  | 0, ht => simp at ht; subst ht; exact hn
  | 1, ht => simp at ht; subst ht; exact hn
  | 2, ht => simp at ht; subst ht; exact hn
  | j + 3, ht => simp at ht

/-- THE CARD. -/
theorem tried_holds : Rows.TriedCardSaid :=
  Claim7.holds_tied_plain_at .later [] _ _ _ _ tried_said (fun _ h => by cases h) (by kernel_rfl) (fun _ h => by cases h) tried_row_tie rfl ⟨rfl, rfl⟩ (by kernel_rfl) rfl tried_plain (by kernel_rfl)
#print axioms tried_holds
end Go.Proofs.YticobikhndlejaaDoor
