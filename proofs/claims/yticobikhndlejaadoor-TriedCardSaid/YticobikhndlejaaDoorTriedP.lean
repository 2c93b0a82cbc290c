/- Tried in plain Lean: a request whose command fails n times. -/
import Derived.Test.YticobikhndlejaaDoorOk3
namespace Go.Proofs.YticobikhndlejaaDoor

/-- The one request stands there, open, tried i times. -/
def tOpen (i : Nat) (t : St) : Bool :=
  match t.find 1 with
  | none => false
  | some r => decide ((r.state = 0 ∨ r.state = 1) ∧ r.tries = (i : Int))
/-- Behind the waits. -/
def tWait : Nat → Nat → St → Option St
  | 0, _, t => some t
  | k + 1, i, t => if t.cmd.isNone && tOpen i t then tWait k i t.tick else none
/-- The end: nothing more; the outcome; the disk. -/
def tEnd (wr : Bool) (p n : Nat) (t : St) : Bool :=
  t.cmd.isNone && (match t.find 1 with
    | none => false
    | some r => decide (r.write = wr ∧ (if n < 4 then r.state = 2 else r.state = 3) ∧ 1 ≤ r.tries ∧ r.tries ≤ 4 ∧ (n < 4 ∨ r.tries = 4)))
    && decide (t.disk.length = 64 ∧ dget t.disk (p : Int) = if n < 4 ∧ wr = true then askD 9 0 else ⟨0, 0, 0, 0⟩)
/-- One round's command. -/
def tRound (wr : Bool) (n i wait : Nat) (t : St) : Option St :=
  match tWait wait i t with
  | none => none
  | some t1 =>
    match t1.cmd with
    | none => none
    | some c => if c.write = wr ∧ c.count = 1 ∧ c.nums.length = 1 then (t1.sent c).complete 0 (decide (i < n)) else none
/-- The rounds from the i-th on (f of them at the most). -/
def tLoop (wr : Bool) (p n : Nat) : Nat → Nat → Nat → St → Bool
  | 0, _, _, t => tEnd wr p n t
  | f + 1, i, wait, t =>
    match tRound wr n i wait t with
    | none => false
    | some t2 => if n ≤ i then tEnd wr p n t2 else tLoop wr p n f (i + 1) (2 ^ i) t2
def tSim (wr : Bool) (p n : Nat) : Bool := tLoop wr p n 4 0 0 ((St.new 1).add wr (p : Int) (if wr then askD 9 0 else ⟨0, 0, 0, 0⟩))
def tAll : Bool := (List.range 16).all fun p => (List.range 5).all fun n => tSim true p n && tSim false p n
theorem tAll_true : tAll = true := by decide +kernel
theorem tSim_true (wr : Bool) {p n : Nat} (hp : p < 16) (hn : n < 5) : tSim wr p n = true := by
  have h := tAll_true
  unfold tAll at h
  rw [List.all_eq_true] at h
  have h1 := h p (List.mem_range.2 hp)
  rw [List.all_eq_true] at h1
  have h2 := h1 n (List.mem_range.2 hn)
  rw [Bool.and_eq_true] at h2
  cases wr
  · exact h2.2
  · exact h2.1
end Go.Proofs.YticobikhndlejaaDoor
