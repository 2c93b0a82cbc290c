/- errors.As by contracts: a nil error, a Kind, a *RequestError; targets *(*RequestError) and *Kind. -/
import Derived.Test.YticobikhndlejaaDoorErr
namespace Go.Proofs.YticobikhndlejaaDoor
open Go.RowKit Go.Extern.Stop Go.Stop Go.Extern

/-- A type's handle. -/
abbrev hdl (t : Nat) : Value := .pointer (some ⟨1, t, none⟩)
abbrev rty (t : Nat) : Value := .iface 136 (.agg #[hdl t])
/-- package errors' variable errorType holds the handle of error. -/
abbrev ErrVar (w : World) : Prop := w.cell? ⟨0, 0, none⟩ = some (rty 55)
/-- a reflectlite.Value -/
abbrev rval (t : Nat) (a : Addr) (f : Int) : Value := .agg #[hdl t, .pointer (some a), .int .u64 f]

theorem Tryd.voPP (t : Addr) (w : World) : (callFunc 53 #[.iface 106 (.pointer (some t))]).run Tryd.prog w = .ok (.value (rval 106 ⟨w.heap.size, 0, none⟩ 150)) (w.alloc (.cells #[.pointer (some t)] 106)) := by kernel_rfl
theorem Tryd.voPK (t : Addr) (w : World) : (callFunc 53 #[.iface 107 (.pointer (some t))]).run Tryd.prog w = .ok (.value (rval 107 ⟨w.heap.size, 0, none⟩ 150)) (w.alloc (.cells #[.pointer (some t)] 107)) := by kernel_rfl
theorem Tryd.voR (p : Nat) (w : World) : (callFunc 53 #[errR p]).run Tryd.prog w = .ok (.value (rval 56 ⟨w.heap.size, 0, none⟩ 150)) (w.alloc (.cells #[.pointer (some ⟨p, 0, none⟩)] 56)) := by kernel_rfl
theorem Tryd.voK (k : Int) (w : World) : (callFunc 53 #[errK k]).run Tryd.prog w = .ok (.value (rval 22 ⟨w.heap.size, 0, none⟩ 130)) (w.alloc (.cells #[.int .i64 k] 22)) := by kernel_rfl
theorem Tryd.tyPP (a : Addr) (w : World) : (callFunc 54 #[rval 106 a 150]).run Tryd.prog w = .ok (.value (rty 106)) w := by kernel_rfl
theorem Tryd.tyPK (a : Addr) (w : World) : (callFunc 54 #[rval 107 a 150]).run Tryd.prog w = .ok (.value (rty 107)) w := by kernel_rfl
theorem Tryd.kdPP (w : World) : (callFunc 95 #[hdl 106]).run Tryd.prog w = .ok (.value (.int .u8 22)) w := by kernel_rfl
theorem Tryd.kdPK (w : World) : (callFunc 95 #[hdl 107]).run Tryd.prog w = .ok (.value (.int .u8 22)) w := by kernel_rfl
theorem Tryd.kdR (w : World) : (callFunc 95 #[hdl 56]).run Tryd.prog w = .ok (.value (.int .u8 22)) w := by kernel_rfl
theorem Tryd.kdK (w : World) : (callFunc 95 #[hdl 22]).run Tryd.prog w = .ok (.value (.int .u8 2)) w := by kernel_rfl
theorem Tryd.elPP (w : World) : (callFunc 109 #[.agg #[hdl 106]]).run Tryd.prog w = .ok (.value (rty 56)) w := by kernel_rfl
theorem Tryd.elPK (w : World) : (callFunc 109 #[.agg #[hdl 107]]).run Tryd.prog w = .ok (.value (rty 22)) w := by kernel_rfl
theorem Tryd.imR (w : World) : (callFunc 110 #[.agg #[hdl 56], rty 55]).run Tryd.prog w = .ok (.value (.bool true)) w := by kernel_rfl
theorem Tryd.imK (w : World) : (callFunc 110 #[.agg #[hdl 22], rty 55]).run Tryd.prog w = .ok (.value (.bool true)) w := by kernel_rfl
theorem Tryd.toR (p : Nat) (w : World) : (callFunc 44 #[errR p]).run Tryd.prog w = .ok (.value (rty 56)) w := by kernel_rfl
theorem Tryd.asRR (w : World) : (callFunc 107 #[.agg #[hdl 56], rty 56]).run Tryd.prog w = .ok (.value (.bool true)) w := by kernel_rfl
theorem Tryd.asKK (w : World) : (callFunc 107 #[.agg #[hdl 22], rty 22]).run Tryd.prog w = .ok (.value (.bool true)) w := by kernel_rfl
theorem Tryd.asKR (w : World) : (callFunc 107 #[.agg #[hdl 22], rty 56]).run Tryd.prog w = .ok (.value (.bool false)) w := by kernel_rfl
theorem Tryd.noAsK (v : Value) (xT : TypeId) (w : World) : (Instr.typeAssert (.iface 22 v) xT 150 true).run Tryd.prog w = .ok (.tuple #[.nilIface, .bool false]) w :=
  run_typeAssert_lacksB Tryd.underlying150 (by kernel_rfl) (by kernel_rfl) v xT w

/-! the entries that read or write memory -/
theorem rlm (z : Sem Value) (f : TypeId → Addr → Nat → Nat → Sem Value) (v : Value) :
    ReflectliteValue.method z f #[v] = (do match ← ReflectliteValue.parts v with | none => z | some (t, a, fl) => f t a fl (fl % 32)) := rfl
theorem Tryd.partsPP (a : Addr) (w : World) : (ReflectliteValue.parts (rval 106 a 150)).run Tryd.prog w = .ok (some (106, a, 150)) w := by kernel_rfl
theorem Tryd.partsPK (a : Addr) (w : World) : (ReflectliteValue.parts (rval 107 a 150)).run Tryd.prog w = .ok (some (107, a, 150)) w := by kernel_rfl
theorem Tryd.inPP (a p : Addr) (W : World) (ha : W.cell? a = some (.pointer (some p))) :
    (callFunc 55 #[rval 106 a 150]).run Tryd.prog W = .ok (.value (.bool false)) W := by
  rw [@run_callFunc_extern Tryd.prog 55 _ (ReflectliteValue.method (ReflectliteValue.valueError "reflectlite.Value.IsNil" 0) ReflectliteValue.isNil) Tryd.func55 (by kernel_rfl) (by kernel_rfl) (by kernel_rfl) (by kernel_rfl)]
  rw [rlm]
  simp only [Sem.run_bind, Tryd.partsPP, Result.andThen]
  simp [ReflectliteValue.isNil, loadVar, isAgg, underlying, Tryd.underlying106, ha, Result.andThen]
theorem Tryd.inPK (a p : Addr) (W : World) (ha : W.cell? a = some (.pointer (some p))) :
    (callFunc 55 #[rval 107 a 150]).run Tryd.prog W = .ok (.value (.bool false)) W := by
  rw [@run_callFunc_extern Tryd.prog 55 _ (ReflectliteValue.method (ReflectliteValue.valueError "reflectlite.Value.IsNil" 0) ReflectliteValue.isNil) Tryd.func55 (by kernel_rfl) (by kernel_rfl) (by kernel_rfl) (by kernel_rfl)]
  rw [rlm]
  simp only [Sem.run_bind, Tryd.partsPK, Result.andThen]
  simp [ReflectliteValue.isNil, loadVar, isAgg, underlying, Tryd.underlying107, ha, Result.andThen]
theorem Tryd.eoPP (w : World) : (Rtype.elem? 106).run Tryd.prog w = .ok (some 56) w := by kernel_rfl
theorem Tryd.eoPK (w : World) : (Rtype.elem? 107).run Tryd.prog w = .ok (some 22) w := by kernel_rfl
theorem Tryd.mkR (p : Addr) (w : World) : (ReflectliteValue.mk 56 p ReflectliteValue.flagAddr).run Tryd.prog w = .ok (rval 56 p 406) w := by kernel_rfl
theorem Tryd.mkK (p : Addr) (w : World) : (ReflectliteValue.mk 22 p ReflectliteValue.flagAddr).run Tryd.prog w = .ok (rval 22 p 386) w := by kernel_rfl
theorem Tryd.evPP (a p : Addr) (W : World) (ha : W.cell? a = some (.pointer (some p))) :
    (callFunc 60 #[rval 106 a 150]).run Tryd.prog W = .ok (.value (rval 56 p 406)) W := by
  rw [@run_callFunc_extern Tryd.prog 60 _ (ReflectliteValue.method (ReflectliteValue.valueError "reflectlite.Value.Elem" 0) ReflectliteValue.elem) Tryd.func60 (by kernel_rfl) (by kernel_rfl) (by kernel_rfl) (by kernel_rfl)]
  rw [rlm]
  simp only [Sem.run_bind, Tryd.partsPP, Result.andThen]
  simp [ReflectliteValue.elem, loadVar, isAgg, underlying, Tryd.underlying106, ha, Result.andThen, Tryd.eoPP, Tryd.mkR]
theorem Tryd.evPK (a p : Addr) (W : World) (ha : W.cell? a = some (.pointer (some p))) :
    (callFunc 60 #[rval 107 a 150]).run Tryd.prog W = .ok (.value (rval 22 p 386)) W := by
  rw [@run_callFunc_extern Tryd.prog 60 _ (ReflectliteValue.method (ReflectliteValue.valueError "reflectlite.Value.Elem" 0) ReflectliteValue.elem) Tryd.func60 (by kernel_rfl) (by kernel_rfl) (by kernel_rfl) (by kernel_rfl)]
  rw [rlm]
  simp only [Sem.run_bind, Tryd.partsPK, Result.andThen]
  simp [ReflectliteValue.elem, loadVar, isAgg, underlying, Tryd.underlying107, ha, Result.andThen, Tryd.eoPK, Tryd.mkK]
theorem rls (v x : Value) : ReflectliteValue.set #[v, x] = (do
    let (some (dst, a, fl), some (src, b, _)) := (← ReflectliteValue.parts v, ← ReflectliteValue.parts x)
      | unsupported (.noEntry "extern/(internal/reflectlite.Value).Set.zeroValue")
    if fl / ReflectliteValue.flagAddr % 2 == 0 then unsupported (.noEntry "extern/(internal/reflectlite.Value).Set.unaddressable")
    let val ← loadVar src b
    if ← Rtype.directlyAssignable dst src then storeVar dst a val
    else if ← Rtype.implements dst src then
      if (← Rtype.kind src) == 20 then
        match val with
        | .nilIface => unsupported (.noEntry "extern/reflectlite: a nil value of one interface type handed on as a value of another")
        | _ => storeVar dst a val
      else storeVar dst a (.iface src val)
    else panicString ("reflectlite.Set: value of type " ++ (← Rtype.spelt src) ++ " is not assignable to type " ++ (← Rtype.spelt dst))
    pure (.tuple #[])) := rfl
theorem Tryd.partsRa (a : Addr) (w : World) : (ReflectliteValue.parts (rval 56 a 406)).run Tryd.prog w = .ok (some (56, a, 406)) w := by kernel_rfl
theorem Tryd.partsR (a : Addr) (w : World) : (ReflectliteValue.parts (rval 56 a 150)).run Tryd.prog w = .ok (some (56, a, 150)) w := by kernel_rfl
theorem Tryd.partsKa (a : Addr) (w : World) : (ReflectliteValue.parts (rval 22 a 386)).run Tryd.prog w = .ok (some (22, a, 386)) w := by kernel_rfl
theorem Tryd.partsK (a : Addr) (w : World) : (ReflectliteValue.parts (rval 22 a 130)).run Tryd.prog w = .ok (some (22, a, 130)) w := by kernel_rfl
theorem Tryd.direct56 (w : World) : (Rtype.directlyAssignable 56 56).run Tryd.prog w = .ok true w := by kernel_rfl
theorem Tryd.direct22 (w : World) : (Rtype.directlyAssignable 22 22).run Tryd.prog w = .ok true w := by kernel_rfl
theorem Tryd.setR (ta b : Addr) (e : Nat) (old : Value) (W : World) (hb : W.cell? b = some (.pointer (some ⟨e, 0, none⟩))) (ht : W.cell? ta = some old) (hf : W.frozen? ta = false) :
    (callFunc 61 #[rval 56 ta 406, rval 56 b 150]).run Tryd.prog W = .ok (.value (.tuple #[])) (W.setCell ta (.pointer (some ⟨e, 0, none⟩))) := by
  rw [@run_callFunc_extern Tryd.prog 61 _ ReflectliteValue.set Tryd.func61 (by kernel_rfl) (by kernel_rfl) (by kernel_rfl) (by kernel_rfl)]
  rw [rls]
  simp only [Sem.run_bind, Tryd.partsRa, Tryd.partsR, Result.andThen]
  simp [ReflectliteValue.flagAddr, loadVar, isAgg, underlying, Tryd.underlying56, hb, Result.andThen, Tryd.direct56, storeVar, Value.cells, storeCells, Addr.add]
  rw [run_store Tryd.prog W ta _ _ (by rfl)]
  simp [ht, hf]
theorem Tryd.setK (ta b : Addr) (k : Int) (old : Value) (W : World) (hb : W.cell? b = some (.int .i64 k)) (ht : W.cell? ta = some old) (hf : W.frozen? ta = false) :
    (callFunc 61 #[rval 22 ta 386, rval 22 b 130]).run Tryd.prog W = .ok (.value (.tuple #[])) (W.setCell ta (.int .i64 k)) := by
  rw [@run_callFunc_extern Tryd.prog 61 _ ReflectliteValue.set Tryd.func61 (by kernel_rfl) (by kernel_rfl) (by kernel_rfl) (by kernel_rfl)]
  rw [rls]
  simp only [Sem.run_bind, Tryd.partsKa, Tryd.partsK, Result.andThen]
  simp [ReflectliteValue.flagAddr, loadVar, isAgg, underlying, Tryd.underlying22, hb, Result.andThen, Tryd.direct22, storeVar, Value.cells, storeCells, Addr.add]
  rw [run_store Tryd.prog W ta _ _ (by rfl)]
  simp [ht, hf]
end Go.Proofs.YticobikhndlejaaDoor
