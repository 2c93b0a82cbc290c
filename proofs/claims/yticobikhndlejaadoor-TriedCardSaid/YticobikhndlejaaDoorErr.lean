/- errors.Is by contracts: a nil error, a Kind, a *RequestError. -/
import Derived.Test.YticobikhndlejaaDoorRows
import Derived.WalkKit
import Derived.WalkSpells
import Derived.WalkLawsBesides
import Derived.Outline
import Derived.LaidEql
import Derived.Stop.Asserts
import Derived.RowKitTokens
import Derived.Handy
namespace Go.Proofs.YticobikhndlejaaDoor
open Go.RowKit Go.Extern.Stop Go.Stop Go.Extern

/-- The error values of the program: a Kind; a *RequestError at p. -/
abbrev errK (k : Int) : Value := .iface 22 (.int .i64 k)
abbrev errR (p : Nat) : Value := .iface 56 (.pointer (some ⟨p, 0, none⟩))

theorem Tryd.cfTypeOfK (k : Int) (w : World) : (callFunc 44 #[errK k]).run Tryd.prog w = .ok (.value (.iface 136 (.agg #[.pointer (some ⟨1, 22, none⟩)]))) w := by kernel_rfl
theorem Tryd.cfComparable (w : World) : (callFunc 108 #[.agg #[.pointer (some ⟨1, 22, none⟩)]]).run Tryd.prog w = .ok (.value (.bool true)) w := by kernel_rfl
theorem Tryd.noIsK (v : Value) (xT : TypeId) (w : World) : (Instr.typeAssert (.iface 22 v) xT 138 true).run Tryd.prog w = .ok (.tuple #[.nilIface, .bool false]) w :=
  run_typeAssert_lacksB Tryd.underlying138 (by kernel_rfl) (by kernel_rfl) v xT w
theorem Tryd.noUnK (v : Value) (xT : TypeId) (w : World) : (Instr.typeAssert (.iface 22 v) xT 141 true).run Tryd.prog w = .ok (.tuple #[.nilIface, .bool false]) w :=
  run_typeAssert_lacksB Tryd.underlying141 (by kernel_rfl) (by kernel_rfl) v xT w
theorem Tryd.noUnsK (v : Value) (xT : TypeId) (w : World) : (Instr.typeAssert (.iface 22 v) xT 143 true).run Tryd.prog w = .ok (.tuple #[.nilIface, .bool false]) w :=
  run_typeAssert_lacksB Tryd.underlying143 (by kernel_rfl) (by kernel_rfl) v xT w
theorem Tryd.noIsR (v : Value) (xT : TypeId) (w : World) : (Instr.typeAssert (.iface 56 v) xT 138 true).run Tryd.prog w = .ok (.tuple #[.nilIface, .bool false]) w :=
  run_typeAssert_lacksB Tryd.underlying138 (by kernel_rfl) (by kernel_rfl) v xT w
theorem Tryd.unR (v : Value) (xT : TypeId) (w : World) : (Instr.typeAssert (.iface 56 v) xT 141 true).run Tryd.prog w = .ok (.tuple #[.iface 56 v, .bool true]) w :=
  run_typeAssert_hasB Tryd.underlying141 (by kernel_rfl) v xT w
theorem Tryd.eqNilK (i : Int) (w : World) : (binOp BinOp.eql 55 .nilIface (errK i)).run Tryd.prog w = .ok (.bool false) w := by kernel_rfl
theorem Tryd.eqKK (k i : Int) (w : World) : (binOp BinOp.eql 55 (errK k) (errK i)).run Tryd.prog w = .ok (.bool (k == i)) w := by kernel_rfl
theorem Tryd.eqRK (p : Nat) (i : Int) (w : World) : (binOp BinOp.eql 55 (errR p) (errK i)).run Tryd.prog w = .ok (.bool false) w := by kernel_rfl

set_option maxRecDepth 100000 in
theorem is_nil (i : Int) (w : World) : Calls Tryd.prog 28 #[.nilIface, errK i] w fun e w' => e = .returned (.bool false) ∧ w = w' := by
  have q1 := Tryd.eqNilK
  go_enter Tryd.func28, Tryd.ntmps28
  go_wp2
  go_ret
  exact ⟨rfl, rfl⟩
set_option maxRecDepth 100000 in
theorem is1_kind (k i : Int) (w : World) : Calls Tryd.prog 45 #[errK k, errK i, .bool true] w fun e w' => e = .returned (.bool (k == i)) ∧ w = w' := by
  have n1 := Tryd.noIsK
  have n2 := Tryd.noUnK
  have n3 := Tryd.noUnsK
  have n4 := Tryd.eqKK
  by_cases h : k = i
  · subst h
    go_enter Tryd.func45, Tryd.ntmps45
    go_wp2
    refine wp_loop_rounds 1 ?_
    rw [rounds_succ]
    go_wp2
    go_ret
    exact ⟨by simp, rfl⟩
  · have h' : (k == i) = false := by simpa using h
    go_enter Tryd.func45, Tryd.ntmps45
    go_wp2
    refine wp_loop_rounds 1 ?_
    rw [rounds_succ]
    go_wp2
    go_ret
    exact ⟨by simp [h'], rfl⟩
set_option maxRecDepth 100000 in
theorem is_kind (k i : Int) (w : World) : Calls Tryd.prog 28 #[errK k, errK i] w fun e w' => e = .returned (.bool (k == i)) ∧ w = w' := by
  have tO := Tryd.cfTypeOfK
  have tC := Tryd.cfComparable
  go_enter Tryd.func28, Tryd.ntmps28
  go_wp2_with (go_at_call 45; refine (is1_kind _ _ _).mono ?_; rintro e w' ⟨rfl, rfl⟩)
  go_ret
  exact ⟨rfl, rfl⟩
/-- A *RequestError in memory: its three cells. -/
structure ReqErr (w : World) (p : Nat) (r t k : Int) : Prop where
  c0 : w.cell? ⟨p, 0, none⟩ = some (.int .i64 r)
  c1 : w.cell? ⟨p, 1, none⟩ = some (.int .i64 t)
  c2 : w.cell? ⟨p, 2, none⟩ = some (.int .i64 k)
set_option maxRecDepth 100000 in
theorem unwrap_req (p : Nat) (r t k : Int) (w : World) (h : ReqErr w p r t k) : Calls Tryd.prog 101 #[.pointer (some ⟨p, 0, none⟩)] w fun e w' => e = .returned (errK k) ∧ w = w' := by
  obtain ⟨_, _, c2⟩ := h
  go_enter Tryd.func101, Tryd.ntmps101
  go_wp2
  go_ret
  exact ⟨rfl, rfl⟩
set_option maxRecDepth 100000 in
theorem is1_req (p : Nat) (r t k i : Int) (w : World) (h : ReqErr w p r t k) : Calls Tryd.prog 45 #[errR p, errK i, .bool true] w fun e w' => e = .returned (.bool (k == i)) ∧ w = w' := by
  have n1 := Tryd.noIsK
  have n2 := Tryd.noUnK
  have n3 := Tryd.noUnsK
  have n4 := Tryd.eqKK
  have n5 := Tryd.noIsR
  have n6 := Tryd.unR
  have n7 := Tryd.eqRK
  have hU := unwrap_req p r t k w h
  clear h
  by_cases h : k = i
  · subst h
    go_enter Tryd.func45, Tryd.ntmps45
    go_wp2
    refine wp_loop_rounds 2 ?_
    rw [rounds_succ]
    go_wp2_with (go_at_call 101; refine hU.mono ?_; rintro e w' ⟨rfl, rfl⟩)
    rw [rounds_succ]
    go_wp2
    go_ret
    exact ⟨by simp, rfl⟩
  · have h' : (k == i) = false := by simpa using h
    go_enter Tryd.func45, Tryd.ntmps45
    go_wp2
    refine wp_loop_rounds 2 ?_
    rw [rounds_succ]
    go_wp2_with (go_at_call 101; refine hU.mono ?_; rintro e w' ⟨rfl, rfl⟩)
    rw [rounds_succ]
    go_wp2
    go_ret
    exact ⟨by simp [h'], rfl⟩
set_option maxRecDepth 100000 in
theorem is_req (p : Nat) (r t k i : Int) (w : World) (h : ReqErr w p r t k) : Calls Tryd.prog 28 #[errR p, errK i] w fun e w' => e = .returned (.bool (k == i)) ∧ w = w' := by
  have tO := Tryd.cfTypeOfK
  have tC := Tryd.cfComparable
  go_enter Tryd.func28, Tryd.ntmps28
  go_wp2_with (go_at_call 45; refine (is1_req _ _ _ _ _ _ h).mono ?_; rintro e w' ⟨rfl, rfl⟩)
  go_ret
  exact ⟨rfl, rfl⟩
end Go.Proofs.YticobikhndlejaaDoor
