/- Joined in plain Lean: the run of each case, reckoned by the kernel. -/
import Derived.Test.YticobikhndlejaaDoorJoinP
namespace Go.Proofs.YticobikhndlejaaDoor

theorem jAll_true : jAll = true := by decide +kernel
theorem jSim_true (wr : Bool) {a n : Nat} (ha : a < 16) (hn : 1 ≤ n ∧ a + n ≤ 16) : jSim wr a n = true := by
  have h := jAll_true
  unfold jAll at h
  rw [List.all_eq_true] at h
  have h1 := h a (List.mem_range.2 ha)
  rw [List.all_eq_true] at h1
  have h2 := h1 (n - 1) (List.mem_range.2 (by omega))
  rw [show n - 1 + 1 = n from by omega, Bool.and_eq_true] at h2
  cases wr
  · exact h2.2
  · exact h2.1
end Go.Proofs.YticobikhndlejaaDoor
