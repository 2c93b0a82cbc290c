/- package elevatorkeep by contracts: fine, pick, begun. -/
import Derived.Test.YticobikhndlejaaDoorPlain
import Derived.Laws.BytesArg
namespace Go.Proofs.YticobikhndlejaaDoor
open Go.RowKit Go.Shelf Go.Lib

theorem Tryd.eqF0 (w : World) : (binOp BinOp.eql 24 (plErr 0 (-1) 0) (plErr 0 (-1) 0)).run Tryd.prog w = .ok (.bool true) w := by kernel_rfl
theorem Tryd.eqFk (k r t : Int) (hk : k = 1 ∨ k = 2 ∨ k = 3 ∨ k = 4 ∨ k = 5 ∨ k = 6 ∨ k = 7 ∨ k = 8 ∨ k = 9 ∨ k = 10) (w : World) : (binOp BinOp.eql 24 (plErr k r t) (plErr 0 (-1) 0)).run Tryd.prog w = .ok (.bool false) w := by
  rcases hk with rfl | rfl | rfl | rfl | rfl | rfl | rfl | rfl | rfl | rfl <;> kernel_rfl
set_option maxRecDepth 100000 in
theorem fine_yes (w : World) : Calls Tryd.prog 15 #[plErr 0 (-1) 0] w fun x w' => x = .returned (.bool true) ∧ Below w.heap.size w w' := by
  have h := Tryd.eqF0
  go_enter Tryd.func15, Tryd.ntmps15
  go_wp2_with fail
  go_ret
  exact ⟨rfl, by go_grown⟩
set_option maxRecDepth 100000 in
theorem fine_no (k r t : Int) (hk : k = 1 ∨ k = 2 ∨ k = 3 ∨ k = 4 ∨ k = 5 ∨ k = 6 ∨ k = 7 ∨ k = 8 ∨ k = 9 ∨ k = 10) (w : World) : Calls Tryd.prog 15 #[plErr k r t] w fun x w' => x = .returned (.bool false) ∧ Below w.heap.size w w' := by
  have h := Tryd.eqFk k r t hk
  clear hk
  go_enter Tryd.func15, Tryd.ntmps15
  go_wp2_with fail
  go_ret
  exact ⟨rfl, by go_grown⟩
/-- pick. -/
def pickI (c n : Int) : Int := (if c < 0 then -(c + 1) else c) % n
theorem pickI_lt (c : Int) {n : Int} (hn : 0 < n) : 0 ≤ pickI c n ∧ pickI c n < n := ⟨Int.emod_nonneg _ (by omega), Int.emod_lt_of_pos _ hn⟩
set_option maxRecDepth 100000 in
theorem pick_any (c n : Int) (w : World) (hc : -9223372036854775808 ≤ c ∧ c ≤ 9223372036854775807) (hn : 0 < n ∧ n ≤ 1000000) : Calls Tryd.prog 9 #[.int .i64 c, .int .i64 n] w fun x w' => x = .returned (.int .i64 (pickI c n)) ∧ w' = w := by
  have hn0 : (n == 0) = false := by simp; omega
  have hnn : ¬ n = 0 := by omega
  by_cases h0 : c < 0
  · have d0 : decide (c < 0) = true := by simpa using h0
    have w1 : IntKind.i64.wrap (c + 1) = c + 1 := by rw [IntKind.wrap_i64]; omega
    have w2 : IntKind.i64.wrap (-(c + 1)) = -(c + 1) := by rw [IntKind.wrap_i64]; omega
    have e : (-(c + 1)).tmod n = pickI c n := by unfold pickI; rw [if_pos h0, Int.tmod_eq_emod_of_nonneg (by omega)]
    have hp := pickI_lt c hn.1
    have w3 : IntKind.i64.wrap (pickI c n) = pickI c n := by rw [IntKind.wrap_i64]; omega
    clear h0
    go_enter Tryd.func9, Tryd.ntmps9
    go_wp2_with fail
    go_ret
    exact ⟨rfl, rfl⟩
  · have d0 : decide (c < 0) = false := by simpa using h0
    have e : c.tmod n = pickI c n := by unfold pickI; rw [if_neg h0, Int.tmod_eq_emod_of_nonneg (by omega)]
    have hp := pickI_lt c hn.1
    have w3 : IntKind.i64.wrap (pickI c n) = pickI c n := by rw [IntKind.wrap_i64]; omega
    go_enter Tryd.func9, Tryd.ntmps9
    go_wp2_with fail
    go_ret
    exact ⟨rfl, rfl⟩
end Go.Proofs.YticobikhndlejaaDoor
