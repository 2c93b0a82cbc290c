/- slices.Delete of one command, by contract. -/
import Derived.Test.YticobikhndlejaaDoorStep
import Derived.Deep.RegionLaw
import Derived.Lib.SliceRun
namespace Go.Proofs.YticobikhndlejaaDoor
open Go.RowKit Go.Shelf Go.Lib

theorem setCells_split {b : Nat} {t : TypeId} {f : Nat × Nat} : ∀ (vs : List Value) (w : World) (c : Array Value) (pre old post : List Value), w.heap[b]? = some (.cells c t f) → c.toList = pre ++ old ++ post → old.length = vs.length →
    ∃ c', (w.setCells b pre.length vs).heap[b]? = some (.cells c' t f) ∧ c'.toList = pre ++ vs ++ post ∧ Chg (fun k => k = b) w (w.setCells b pre.length vs)
  | [], w, c, pre, old, post, h, hc, hl => by
    have : old = [] := List.length_eq_zero_iff.1 (by simpa using hl)
    subst this
    exact ⟨c, h, hc, Chg.refl _ _⟩
  | v :: vs, w, c, pre, old, post, h, hc, hl => by
    match old, hl with
    | o :: old, hl =>
      have h1 := heap_setCell (i := pre.length) v h
      have hc1 : (c.setIfInBounds pre.length v).toList = (pre ++ [v]) ++ old ++ post := by
        rw [Array.toList_setIfInBounds, hc]
        simp
      obtain ⟨c', e1, e2, e3⟩ := setCells_split vs (w.setCell ⟨b, pre.length, none⟩ v) _ (pre ++ [v]) old post h1 hc1 (by simpa using hl)
      rw [show (pre ++ [v]).length = pre.length + 1 from by simp] at e1 e3
      refine ⟨c', e1, by simpa using e2, (chg_set v).then e3⟩
abbrev zcmd : List Value := [.bool false, .int .i64 0, .int .i64 0, .slice none 0 0]
theorem run_clear_cmd (w : World) (b o c : Nat) (ty : TypeId) (hc : ∀ j, j < 4 → (w.cell? ⟨b, o + j, none⟩).isSome = true) (hf : ∀ j, j < 4 → w.frozen? ⟨b, o + j, none⟩ = false) :
    (Builtin.clear_ #[66] ty #[.slice (some ⟨b, o, none⟩) 1 c]).run Tryd.prog w = .ok (.tuple #[]) (w.setCells b o zcmd) := by
  have hv : ∀ w, (zeroValue 34).run Tryd.prog w = .ok (Value.agg #[.bool false, .int .i64 0, .int .i64 0, .slice none 0 0]) w := fun w => by kernel_rfl
  have hzc : (Builtin.zeroCells (Value.agg #[.bool false, .int .i64 0, .int .i64 0, .slice none 0 0]).cells 1).toList = zcmd := by kernel_rfl
  have hst := run_storeCells_cells (P := Tryd.prog) b o zcmd 0 w (by simpa using hc) (by simpa using hf) (by simp [zcmd, Value.oneCell'])
  simp only [Nat.add_zero] at hst
  simp [Builtin.clear_, run_underlying Tryd.underlying66, hv, hzc, hst]

/-- A slice of commands whose k-th is dropped: the row behind. -/
theorem del_row {w : World} {g n cap k : Nat} {cur : Array Value} {cs : List (Cmd × Value)} (hn : cs.length = n) (hk : k < n) (hb : w.heap[g]? = some (.cells cur 34 (0, 0))) (_hcap : n ≤ cap) (hsz : cur.size = cap * 4) (hrow : cur.toList.take (n * 4) = cs.flatMap cmdCells) :
    ∃ w1 w2, w1 = w.setCells g (k * 4) ((cs.drop (k + 1)).flatMap cmdCells) ∧ w2 = w1.setCells g ((n - 1) * 4) zcmd ∧ Chg (fun i => i = g) w w2 ∧ Chg (fun i => i = g) w w1 ∧
      (∃ cur1, w1.heap[g]? = some (.cells cur1 34 (0, 0)) ∧ cur1.size = cap * 4) ∧
      ∃ cur2, w2.heap[g]? = some (.cells cur2 34 (0, 0)) ∧ cur2.size = cap * 4 ∧ cur2.toList.take ((n - 1) * 4) = (cs.eraseIdx k).flatMap cmdCells := by
  have hlen : ∀ l : List (Cmd × Value), (l.flatMap cmdCells).length = l.length * 4 := fun l => by
    induction l with
    | nil => rfl
    | cons c l ih => rw [List.flatMap_cons, List.length_append, ih]; simp [cmdCells]; omega
  have hsplit : cs = cs.take k ++ cs[k]'(by omega) :: cs.drop (k + 1) := by
    conv => lhs; rw [← List.take_append_drop k cs, List.drop_eq_getElem_cons (by omega)]
  obtain ⟨pre, hpre⟩ : ∃ pre, (cs.take k).flatMap cmdCells = pre := ⟨_, rfl⟩
  obtain ⟨mid, hmid⟩ : ∃ mid, cmdCells (cs[k]'(by omega)) = mid := ⟨_, rfl⟩
  obtain ⟨tl, htl⟩ : ∃ tl, (cs.drop (k + 1)).flatMap cmdCells = tl := ⟨_, rfl⟩
  have hpl : pre.length = k * 4 := by rw [← hpre, hlen, List.length_take]; congr 1; omega
  have hml : mid.length = 4 := by rw [← hmid]; rfl
  have htll : tl.length = (n - 1 - k) * 4 := by rw [← htl, hlen, List.length_drop]; congr 1; omega
  have hall : cs.flatMap cmdCells = pre ++ mid ++ tl := by
    conv => lhs; rw [hsplit]
    rw [List.flatMap_append, List.flatMap_cons, hpre, hmid, htl, List.append_assoc]
  obtain ⟨post, hpost⟩ : ∃ post, cur.toList.drop (n * 4) = post := ⟨_, rfl⟩
  have hcur : cur.toList = pre ++ mid ++ tl ++ post := by
    rw [← List.take_append_drop (n * 4) cur.toList, hrow, hall, hpost]
  -- what is overwritten
  obtain ⟨old, rest, hor, hol⟩ : ∃ old rest, mid ++ tl = old ++ rest ∧ old.length = tl.length := ⟨(mid ++ tl).take tl.length, (mid ++ tl).drop tl.length, (List.take_append_drop _ _).symm, by simp⟩
  have hrl : rest.length = 4 := by
    have := congrArg List.length hor
    simp at this; omega
  have hc1 : cur.toList = pre ++ old ++ (rest ++ post) := by rw [hcur, List.append_assoc, List.append_assoc, ← List.append_assoc mid, hor]; simp
  obtain ⟨c1, e1, e2, e3⟩ := setCells_split tl w cur pre old (rest ++ post) hb hc1 hol
  rw [hpl] at e1 e3
  have hc2 : c1.toList = (pre ++ tl) ++ rest ++ post := by rw [e2]; simp
  obtain ⟨c2, f1, f2, f3⟩ := setCells_split zcmd _ c1 (pre ++ tl) rest post e1 hc2 (by rw [hrl]; rfl)
  have hpt : (pre ++ tl).length = (n - 1) * 4 := by rw [List.length_append, hpl, htll, ← Nat.add_mul]; congr 1; omega
  rw [hpt] at f1 f3
  have s1 : c1.size = cap * 4 := by
    rw [← hsz, ← Array.length_toList, ← Array.length_toList, e2, hc1]; simp [hol]
  have s2 : c2.size = cap * 4 := by
    rw [← s1, ← Array.length_toList, ← Array.length_toList, f2, hc2]; simp [hrl]; omega
  have e4 := e3.then f3
  rw [htl]
  obtain ⟨W1, hW1⟩ : ∃ W1, w.setCells g (k * 4) tl = W1 := ⟨_, rfl⟩
  rw [hW1] at e1 e3 f1 f3 e4
  obtain ⟨W2, hW2⟩ : ∃ W2, W1.setCells g ((n - 1) * 4) zcmd = W2 := ⟨_, rfl⟩
  rw [hW2] at f1 e4
  refine ⟨W1, W2, hW1.symm, hW2.symm, e4, e3, ⟨c1, e1, s1⟩, c2, f1, s2, ?_⟩
  have ht : ((pre ++ tl) ++ (zcmd ++ post)).take ((n - 1) * 4) = pre ++ tl := by rw [← hpt]; exact List.take_left
  rw [f2, List.append_assoc, ht, List.eraseIdx_eq_take_drop_succ, List.flatMap_append, hpre, htl]
end Go.Proofs.YticobikhndlejaaDoor
