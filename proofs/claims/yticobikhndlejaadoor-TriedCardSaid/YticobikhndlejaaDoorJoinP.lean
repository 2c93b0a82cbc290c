/- Joined in plain Lean: neighbours go together. -/
import Derived.Test.YticobikhndlejaaDoorOk3
namespace Go.Proofs.YticobikhndlejaaDoor

/-- What is asked in one round. -/
def jAsk (wr : Bool) (p : Int) (i : Int) (n : Nat) (t : St) : St := if wr then t.add true p (askD i n) else (t.add false p ⟨0, 0, 0, 0⟩).add false p ⟨0, 0, 0, 0⟩
/-- Behind j rounds. -/
def jAsks (wr : Bool) (a count : Nat) : Nat → St
  | 0 => St.new 1
  | j + 1 => jAsk wr (a + (count - 1 - j : Nat) : Nat) (count - 1 - j : Nat) j (jAsks wr a count j)
def jLoop (wr : Bool) (a count : Nat) : Nat → Nat → St → Bool
  | 0, _, _ => false
  | f + 1, left, t =>
    if left = 0 then t.cmd.isNone else
      match t.cmd with
      | none => false
      | some c =>
        if c.page = a + count - left ∧ c.count = min left 4 ∧ c.nums.length = (if wr then min left 4 else 2 * min left 4) ∧ c.write = wr then
          match (t.sent c).complete 0 false with
          | none => false
          | some t' => jLoop wr a count f (left - min left 4) t'
        else false
def jSim (wr : Bool) (a count : Nat) : Bool := jLoop wr a count 17 count (jAsks wr a count count)
def jAll : Bool := (List.range 16).all fun a => (List.range (16 - a)).all fun n => jSim true a (n + 1) && jSim false a (n + 1)
theorem askD_ok {v : Int} (hv : 0 ≤ v ∧ v ≤ 255) (n : Nat) : BOk (askD v n) := by
  unfold askD BOk
  simp only
  omega
theorem b0_ok : BOk ⟨0, 0, 0, 0⟩ := by unfold BOk; simp only; omega
theorem jAsks_ok (wr : Bool) {a count : Nat} (hc : 1 ≤ count ∧ a + count ≤ 16) : ∀ j, j ≤ count → (jAsks wr a count j).Ok ∧ (jAsks wr a count j).last = ((if wr then j else 2 * j : Nat) : Int) ∧ (jAsks wr a count j).held = ((if wr then j else 2 * j : Nat) : Int) ∧ (jAsks wr a count j).now = 0
  | 0, _ => ⟨ok_new (by omega), by cases wr <;> rfl, by cases wr <;> rfl, rfl⟩
  | j + 1, hj => by
    obtain ⟨h1, h2, h3, h4⟩ := jAsks_ok wr hc j (by omega)
    unfold jAsks jAsk
    cases wr with
    | true =>
      simp only [if_true] at h2 h3 ⊢
      refine ⟨ok_add h1 (by omega) true _ (by omega) _ (askD_ok (by omega) _), ?_, ?_, h4⟩
      · simp only [St.add]; omega
      · simp only [St.add]; omega
    | false =>
      simp only [Bool.false_eq_true, if_false] at h2 h3 ⊢
      have h5 := ok_add h1 (by omega) false ((a + (count - 1 - j : Nat) : Nat) : Int) (by omega) _ b0_ok
      refine ⟨ok_add h5 (by simp only [St.add]; omega) false _ (by omega) _ b0_ok, ?_, ?_, h4⟩
      · simp only [St.add]; omega
      · simp only [St.add]; omega
theorem jLoop_step {wr : Bool} {a count f left : Nat} {t : St} (h : jLoop wr a count f left t = true) (hl : left ≠ 0) : ∃ f' c t', t.cmd = some c ∧ c.page = a + count - left ∧ c.count = min left 4 ∧ c.nums.length = (if wr then min left 4 else 2 * min left 4) ∧ c.write = wr ∧ (t.sent c).complete 0 false = some t' ∧ jLoop wr a count f' (left - min left 4) t' = true := by
  cases f with
  | zero => simp [jLoop] at h
  | succ f =>
    unfold jLoop at h
    rw [if_neg hl] at h
    cases hc : t.cmd with
    | none => rw [hc] at h; simp at h
    | some c =>
      rw [hc] at h
      simp only at h
      by_cases hcond : c.page = a + count - left ∧ c.count = min left 4 ∧ c.nums.length = (if wr then min left 4 else 2 * min left 4) ∧ c.write = wr
      · rw [if_pos hcond] at h
        cases ht : (t.sent c).complete 0 false with
        | none => rw [ht] at h; simp at h
        | some t' =>
          rw [ht] at h
          exact ⟨f, c, t', rfl, hcond.1, hcond.2.1, hcond.2.2.1, hcond.2.2.2, ht, h⟩
      · rw [if_neg hcond] at h
        cases h
theorem sent_same (t : St) (c : Cmd) : (t.sent c).last = t.last ∧ (t.sent c).now = t.now ∧ (t.sent c).held = t.held := ⟨rfl, rfl, rfl⟩
theorem complete_same {t t' : St} {k : Nat} {fault : Bool} (h : t.complete k fault = some t') : t'.last = t.last ∧ t'.now = t.now ∧ t'.held = t.held := by
  unfold St.complete at h
  split at h
  · cases h
  · simp only [Option.some.injEq] at h
    subst h
    rename_i c _
    obtain ⟨_, _, _, a4, a5, a6⟩ := lands_same fault c.nums { t with cs := t.cs.eraseIdx k }
    exact ⟨a5, a4, a6⟩
end Go.Proofs.YticobikhndlejaaDoor
