/- A load of a whole array at whatever place; an array's elements that are arrays. -/
import Derived.Test.YticobikhndlejaaDoorQueue
import Derived.Laws.Rows
namespace Go.Proofs.YticobikhndlejaaDoor
open Go.RowKit Go.Shelf Go.Lib

section
variable {P : Program}
theorem run_loadVar_at (w : World) (g off : Nat) (ty : TypeId) (cs : Array Value) (d : TypeDesc) (hc : ∀ j v, cs.toList[j]? = some v → w.cell? ⟨g, off + j, none⟩ = some v)
    (hu : P.underlying ty = some d) (hd : (match d with | .struct _ | .array _ _ => true | _ => false) = true) (hi : (P.info? ty).map (·.size) = some cs.size) :
    (loadVar ty ⟨g, off, none⟩).run P w = .ok (.agg cs) w := by
  have hl : (loadCells ⟨g, off, none⟩ cs.toList.length).run P w = .ok cs.toList.toArray w :=
    run_loadCells_list (P := P) w ⟨g, off, none⟩ cs.toList (fun j v hv => by
      have hadd : (⟨g, off, none⟩ : Addr).add j = ⟨g, off + j, none⟩ := by unfold Addr.add; split <;> simp_all
      rw [hadd]
      exact hc j v hv)
  cases hq : P.info? ty with
  | none => simp [hq] at hi
  | some i =>
    have hs : i.size = cs.size := by simpa [hq] using hi
    have hagg : (isAgg ty).run P w = .ok true w := by
      unfold isAgg
      rw [Sem.run_bind, run_underlying hu w]
      cases d <;> simp_all
    simp only [Array.length_toList, Array.toArray_toList] at hl
    simp [loadVar, Sem.run_bind, hagg, sizeOf, typeInfo, hq, hs, hl]
theorem wp_load_at {o : Oper} {a : Act} {w : World} {K : Act → World → Prop} {Q : Exit → Act → World → Prop} (ty : TypeId) (x : Operand) (ho : o.op = .load ty x)
    (g off : Nat) (hx : a.eval x = .pointer (some ⟨g, off, none⟩)) (cs : Array Value) (d : TypeDesc) (hc : ∀ j v, cs.toList[j]? = some v → w.cell? ⟨g, off + j, none⟩ = some v)
    (hu : P.underlying ty = some d) (hd : (match d with | .struct _ | .array _ _ => true | _ => false) = true) (hi : (P.info? ty).map (·.size) = some cs.size)
    (h : K (a.put o.dst (.agg cs)) w) : o.wp P a w K Q := by
  unfold Oper.wp execOp
  simp only [ho, hx, Instr.loadAt, Instr.sureAddr, Sem.run_bind, Sem.run_pure, Result.andThen_ok, run_loadVar_at w g off ty cs d hc hu hd hi]
  exact h
theorem wpList_load_at {ops : Array Oper} {rest : List Oper} {o : Oper} {a : Act} {w : World} {Q : Exit → Act → World → Prop} (hgd : o.guard = none) (ty : TypeId) (x : Operand) (ho : o.op = .load ty x)
    (g off : Nat) (hx : a.eval x = .pointer (some ⟨g, off, none⟩)) (cs : Array Value) (d : TypeDesc) (hc : ∀ j v, cs.toList[j]? = some v → w.cell? ⟨g, off + j, none⟩ = some v)
    (hu : P.underlying ty = some d) (hd : (match d with | .struct _ | .array _ _ => true | _ => false) = true) (hi : (P.info? ty).map (·.size) = some cs.size)
    (h : wpList P ops Q rest (a.put o.dst (.agg cs)) w) : wpList P ops Q (o :: rest) a w :=
  wpList_plain hgd fun _ hK => wp_load_at ty x ho g off hx cs d hc hu hd hi (hK _ _ h)
end
theorem QB.disk_cell {w : World} {q tb mb clock : Nat} {fv : Value} {s : Sta} (h : QB w q tb mb clock fv s) (j : Nat) (v : Value) (hv : (s.disk.map fun b => Value.int .u8 b)[j]? = some v) : w.cell? ⟨q, 5 + j, none⟩ = some v := by
  refine cell_of h.que ?_
  unfold qCells
  rw [List.getElem?_toArray, List.getElem?_append_right (by simp)]
  simpa using hv
/-- One page's element of the disk's array. -/
theorem index_disk (l : List Value) (hl : l.length = 64) (i : Nat) (hi : i < 16) (w : World) :
    (Instr.index 68 (.agg l.toArray) (.int .i64 i)).run Tryd.prog w = .ok (.agg #[l.getD (4 * i) undef, l.getD (4 * i + 1) undef, l.getD (4 * i + 2) undef, l.getD (4 * i + 3) undef]) w := by
  have hu : Tryd.prog.underlying 68 = some (.array 16 67) := by kernel_rfl
  have hu2 : Tryd.prog.underlying 67 = some (.array 4 5) := by kernel_rfl
  have hsz : ∀ W, (sizeOf 67).run Tryd.prog W = .ok 4 W := fun W => by kernel_rfl
  have hag : ∀ W, (isAgg 67).run Tryd.prog W = .ok true W := fun W => by kernel_rfl
  have hb : (0 : Int) ≤ (i : Int) ∧ (i : Int) < ((16 : Nat) : Int) := by omega
  have h4 : (l.drop (i * 4)).take 4 = [l.getD (4 * i) undef, l.getD (4 * i + 1) undef, l.getD (4 * i + 2) undef, l.getD (4 * i + 3) undef] := by
    have g : ∀ k, k < 4 → l[i * 4 + k]? = some (l.getD (4 * i + k) undef) := fun k hk => by
      rw [List.getD_eq_getElem?_getD, show 4 * i + k = i * 4 + k from by omega, List.getElem?_eq_getElem (show i * 4 + k < l.length by omega)]; rfl
    refine List.ext_getElem? fun k => ?_
    match k with
    | 0 => simpa using g 0 (by omega)
    | 1 => simpa using g 1 (by omega)
    | 2 => simpa using g 2 (by omega)
    | 3 => simpa using g 3 (by omega)
    | k + 4 => rw [List.getElem?_eq_none (by simp; omega), List.getElem?_eq_none (by simp)]
  simp [Instr.index, asIntOf, run_underlying hu, hb, part, hsz, hag, Result.andThen]
  rw [if_pos (by omega)]
  simp
  simpa using h4
end Go.Proofs.YticobikhndlejaaDoor
