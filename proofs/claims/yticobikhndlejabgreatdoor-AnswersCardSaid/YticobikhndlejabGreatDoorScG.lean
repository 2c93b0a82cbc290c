/- errors.Is by contracts: a nil error, a Kind, a *RequestError. -/
import Derived.Test.YticobikhndlejabGreatDoorRows
import Derived.WalkKit
import Derived.WalkSpells
import Derived.WalkLawsBesides
import Derived.Outline
import Derived.LaidEql
import Derived.Stop.Asserts
import Derived.RowKitTokens
import Derived.Handy
import Derived.Lib.Hide
import Derived.RegionTactic
import Derived.ChangeAlike
import Derived.BigQuiet
import Derived.Deep.QuietTactic
import Derived.Test.YticobikhndlejabGreatDoorScA
namespace Go.Proofs.YticobikhndlejabGreatDoor
open Go.RowKit Go.Extern.Stop Go.Stop Go.Extern

/-- The error values of the program: a Kind; a *RequestError at p. -/
abbrev errK (k : Int) : Value := .iface 49 (.int .i64 k)
abbrev errR (p : Nat) : Value := .iface 148 (.pointer (some ⟨p, 0, none⟩))

theorem Tryz.cfTypeOfK (k : Int) (w : World) : (callFunc 85 #[errK k]).run Tryz.prog w = .ok (.value (.iface 186 (.agg #[.pointer (some ⟨1, 49, none⟩)]))) w := by kernel_rfl
theorem Tryz.cfComparable (w : World) : (callFunc 173 #[.agg #[.pointer (some ⟨1, 49, none⟩)]]).run Tryz.prog w = .ok (.value (.bool true)) w := by kernel_rfl
theorem Tryz.noIsK (v : Value) (xT : TypeId) (w : World) : (Instr.typeAssert (.iface 49 v) xT 188 true).run Tryz.prog w = .ok (.tuple #[.nilIface, .bool false]) w :=
  run_typeAssert_lacksB Tryz.underlying188 (by kernel_rfl) (by kernel_rfl) v xT w
theorem Tryz.noUnK (v : Value) (xT : TypeId) (w : World) : (Instr.typeAssert (.iface 49 v) xT 191 true).run Tryz.prog w = .ok (.tuple #[.nilIface, .bool false]) w :=
  run_typeAssert_lacksB Tryz.underlying191 (by kernel_rfl) (by kernel_rfl) v xT w
theorem Tryz.noUnsK (v : Value) (xT : TypeId) (w : World) : (Instr.typeAssert (.iface 49 v) xT 193 true).run Tryz.prog w = .ok (.tuple #[.nilIface, .bool false]) w :=
  run_typeAssert_lacksB Tryz.underlying193 (by kernel_rfl) (by kernel_rfl) v xT w
theorem Tryz.noIsR (v : Value) (xT : TypeId) (w : World) : (Instr.typeAssert (.iface 148 v) xT 188 true).run Tryz.prog w = .ok (.tuple #[.nilIface, .bool false]) w :=
  run_typeAssert_lacksB Tryz.underlying188 (by kernel_rfl) (by kernel_rfl) v xT w
theorem Tryz.unR (v : Value) (xT : TypeId) (w : World) : (Instr.typeAssert (.iface 148 v) xT 191 true).run Tryz.prog w = .ok (.tuple #[.iface 148 v, .bool true]) w :=
  run_typeAssert_hasB Tryz.underlying191 (by kernel_rfl) v xT w
theorem Tryz.eqNilK (i : Int) (w : World) : (binOp BinOp.eql 87 .nilIface (errK i)).run Tryz.prog w = .ok (.bool false) w := by kernel_rfl
theorem Tryz.eqKK (k i : Int) (w : World) : (binOp BinOp.eql 87 (errK k) (errK i)).run Tryz.prog w = .ok (.bool (k == i)) w := by kernel_rfl
theorem Tryz.eqRK (p : Nat) (i : Int) (w : World) : (binOp BinOp.eql 87 (errR p) (errK i)).run Tryz.prog w = .ok (.bool false) w := by kernel_rfl

set_option maxRecDepth 100000 in
theorem is_nil (i : Int) (w : World) : Calls Tryz.prog 63 #[.nilIface, errK i] w fun e w' => e = .returned (.bool false) ∧ w = w' := by
  have q1 := Tryz.eqNilK
  go_enter Tryz.func63, Tryz.ntmps63
  go_wp2
  go_ret
  exact ⟨rfl, rfl⟩
set_option maxRecDepth 100000 in
theorem is1_kind (k i : Int) (w : World) : Calls Tryz.prog 86 #[errK k, errK i, .bool true] w fun e w' => e = .returned (.bool (k == i)) ∧ w = w' := by
  have n1 := Tryz.noIsK
  have n2 := Tryz.noUnK
  have n3 := Tryz.noUnsK
  have n4 := Tryz.eqKK
  by_cases h : k = i
  · subst h
    go_enter Tryz.func86, Tryz.ntmps86
    go_wp2
    refine wp_loop_rounds 1 ?_
    rw [rounds_succ]
    go_wp2
    go_ret
    exact ⟨by simp, rfl⟩
  · have h' : (k == i) = false := by simpa using h
    go_enter Tryz.func86, Tryz.ntmps86
    go_wp2
    refine wp_loop_rounds 1 ?_
    rw [rounds_succ]
    go_wp2
    go_ret
    exact ⟨by simp [h'], rfl⟩
set_option maxRecDepth 100000 in
theorem is_kind (k i : Int) (w : World) : Calls Tryz.prog 63 #[errK k, errK i] w fun e w' => e = .returned (.bool (k == i)) ∧ w = w' := by
  have tO := Tryz.cfTypeOfK
  have tC := Tryz.cfComparable
  go_enter Tryz.func63, Tryz.ntmps63
  go_wp2_with (go_at_call 86; refine (is1_kind _ _ _).mono ?_; rintro e w' ⟨rfl, rfl⟩)
  go_ret
  exact ⟨rfl, rfl⟩
/-- A *RequestError in memory: its three cells. -/
structure ReqErr (w : World) (p : Nat) (r t k : Int) : Prop where
  c0 : w.cell? ⟨p, 0, none⟩ = some (.int .i64 r)
  c1 : w.cell? ⟨p, 1, none⟩ = some (.int .i64 t)
  c2 : w.cell? ⟨p, 2, none⟩ = some (.int .i64 k)
set_option maxRecDepth 100000 in
theorem unwrap_req (p : Nat) (r t k : Int) (w : World) (h : ReqErr w p r t k) : Calls Tryz.prog 167 #[.pointer (some ⟨p, 0, none⟩)] w fun e w' => e = .returned (errK k) ∧ w = w' := by
  obtain ⟨_, _, c2⟩ := h
  go_enter Tryz.func167, Tryz.ntmps167
  go_wp2
  go_ret
  exact ⟨rfl, rfl⟩
set_option maxRecDepth 100000 in
theorem is1_req (p : Nat) (r t k i : Int) (w : World) (h : ReqErr w p r t k) : Calls Tryz.prog 86 #[errR p, errK i, .bool true] w fun e w' => e = .returned (.bool (k == i)) ∧ w = w' := by
  have n1 := Tryz.noIsK
  have n2 := Tryz.noUnK
  have n3 := Tryz.noUnsK
  have n4 := Tryz.eqKK
  have n5 := Tryz.noIsR
  have n6 := Tryz.unR
  have n7 := Tryz.eqRK
  have hU := unwrap_req p r t k w h
  clear h
  by_cases h : k = i
  · subst h
    go_enter Tryz.func86, Tryz.ntmps86
    go_wp2
    refine wp_loop_rounds 2 ?_
    rw [rounds_succ]
    go_wp2_with (go_at_call 167; refine hU.mono ?_; rintro e w' ⟨rfl, rfl⟩)
    rw [rounds_succ]
    go_wp2
    go_ret
    exact ⟨by simp, rfl⟩
  · have h' : (k == i) = false := by simpa using h
    go_enter Tryz.func86, Tryz.ntmps86
    go_wp2
    refine wp_loop_rounds 2 ?_
    rw [rounds_succ]
    go_wp2_with (go_at_call 167; refine hU.mono ?_; rintro e w' ⟨rfl, rfl⟩)
    rw [rounds_succ]
    go_wp2
    go_ret
    exact ⟨by simp [h'], rfl⟩
set_option maxRecDepth 100000 in
theorem is_req (p : Nat) (r t k i : Int) (w : World) (h : ReqErr w p r t k) : Calls Tryz.prog 63 #[errR p, errK i] w fun e w' => e = .returned (.bool (k == i)) ∧ w = w' := by
  have tO := Tryz.cfTypeOfK
  have tC := Tryz.cfComparable
  go_enter Tryz.func63, Tryz.ntmps63
  go_wp2_with (go_at_call 86; refine (is1_req _ _ _ _ _ _ h).mono ?_; rintro e w' ⟨rfl, rfl⟩)
  go_ret
  exact ⟨rfl, rfl⟩
end Go.Proofs.YticobikhndlejabGreatDoor

/- errors.As by contracts: a nil error, a Kind, a *RequestError; targets *(*RequestError) and *Kind. -/
namespace Go.Proofs.YticobikhndlejabGreatDoor
open Go.RowKit Go.Extern.Stop Go.Stop Go.Extern

/-- A type's handle. -/
abbrev hdl (t : Nat) : Value := .pointer (some ⟨1, t, none⟩)
abbrev rty (t : Nat) : Value := .iface 186 (.agg #[hdl t])
/-- package errors' variable errorType holds the handle of error. -/
abbrev ErrVar (w : World) : Prop := w.cell? ⟨0, 0, none⟩ = some (rty 87)
/-- a reflectlite.Value -/
abbrev rval (t : Nat) (a : Addr) (f : Int) : Value := .agg #[hdl t, .pointer (some a), .int .u64 f]

theorem Tryz.voPP (t : Addr) (w : World) : (callFunc 97 #[.iface 150 (.pointer (some t))]).run Tryz.prog w = .ok (.value (rval 150 ⟨w.heap.size, 0, none⟩ 150)) (w.alloc (.cells #[.pointer (some t)] 150)) := by kernel_rfl
theorem Tryz.voPK (t : Addr) (w : World) : (callFunc 97 #[.iface 153 (.pointer (some t))]).run Tryz.prog w = .ok (.value (rval 153 ⟨w.heap.size, 0, none⟩ 150)) (w.alloc (.cells #[.pointer (some t)] 153)) := by kernel_rfl
theorem Tryz.voR (p : Nat) (w : World) : (callFunc 97 #[errR p]).run Tryz.prog w = .ok (.value (rval 148 ⟨w.heap.size, 0, none⟩ 150)) (w.alloc (.cells #[.pointer (some ⟨p, 0, none⟩)] 148)) := by kernel_rfl
theorem Tryz.voK (k : Int) (w : World) : (callFunc 97 #[errK k]).run Tryz.prog w = .ok (.value (rval 49 ⟨w.heap.size, 0, none⟩ 130)) (w.alloc (.cells #[.int .i64 k] 49)) := by kernel_rfl
theorem Tryz.tyPP (a : Addr) (w : World) : (callFunc 98 #[rval 150 a 150]).run Tryz.prog w = .ok (.value (rty 150)) w := by kernel_rfl
theorem Tryz.tyPK (a : Addr) (w : World) : (callFunc 98 #[rval 153 a 150]).run Tryz.prog w = .ok (.value (rty 153)) w := by kernel_rfl
theorem Tryz.kdPP (w : World) : (callFunc 162 #[hdl 150]).run Tryz.prog w = .ok (.value (.int .u8 22)) w := by kernel_rfl
theorem Tryz.kdPK (w : World) : (callFunc 162 #[hdl 153]).run Tryz.prog w = .ok (.value (.int .u8 22)) w := by kernel_rfl
theorem Tryz.kdR (w : World) : (callFunc 162 #[hdl 148]).run Tryz.prog w = .ok (.value (.int .u8 22)) w := by kernel_rfl
theorem Tryz.kdK (w : World) : (callFunc 162 #[hdl 49]).run Tryz.prog w = .ok (.value (.int .u8 2)) w := by kernel_rfl
theorem Tryz.elPP (w : World) : (callFunc 174 #[.agg #[hdl 150]]).run Tryz.prog w = .ok (.value (rty 148)) w := by kernel_rfl
theorem Tryz.elPK (w : World) : (callFunc 174 #[.agg #[hdl 153]]).run Tryz.prog w = .ok (.value (rty 49)) w := by kernel_rfl
theorem Tryz.imR (w : World) : (callFunc 175 #[.agg #[hdl 148], rty 87]).run Tryz.prog w = .ok (.value (.bool true)) w := by kernel_rfl
theorem Tryz.imK (w : World) : (callFunc 175 #[.agg #[hdl 49], rty 87]).run Tryz.prog w = .ok (.value (.bool true)) w := by kernel_rfl
theorem Tryz.toR (p : Nat) (w : World) : (callFunc 85 #[errR p]).run Tryz.prog w = .ok (.value (rty 148)) w := by kernel_rfl
theorem Tryz.asRR (w : World) : (callFunc 172 #[.agg #[hdl 148], rty 148]).run Tryz.prog w = .ok (.value (.bool true)) w := by kernel_rfl
theorem Tryz.asKK (w : World) : (callFunc 172 #[.agg #[hdl 49], rty 49]).run Tryz.prog w = .ok (.value (.bool true)) w := by kernel_rfl
theorem Tryz.asKR (w : World) : (callFunc 172 #[.agg #[hdl 49], rty 148]).run Tryz.prog w = .ok (.value (.bool false)) w := by kernel_rfl
theorem Tryz.noAsK (v : Value) (xT : TypeId) (w : World) : (Instr.typeAssert (.iface 49 v) xT 205 true).run Tryz.prog w = .ok (.tuple #[.nilIface, .bool false]) w :=
  run_typeAssert_lacksB Tryz.underlying205 (by kernel_rfl) (by kernel_rfl) v xT w

/-! the entries that read or write memory -/
theorem rlm (z : Sem Value) (f : TypeId → Addr → Nat → Nat → Sem Value) (v : Value) :
    ReflectliteValue.method z f #[v] = (do match ← ReflectliteValue.parts v with | none => z | some (t, a, fl) => f t a fl (fl % 32)) := rfl
theorem Tryz.partsPP (a : Addr) (w : World) : (ReflectliteValue.parts (rval 150 a 150)).run Tryz.prog w = .ok (some (150, a, 150)) w := by kernel_rfl
theorem Tryz.partsPK (a : Addr) (w : World) : (ReflectliteValue.parts (rval 153 a 150)).run Tryz.prog w = .ok (some (153, a, 150)) w := by kernel_rfl
theorem Tryz.inPP (a p : Addr) (W : World) (ha : W.cell? a = some (.pointer (some p))) :
    (callFunc 99 #[rval 150 a 150]).run Tryz.prog W = .ok (.value (.bool false)) W := by
  rw [@run_callFunc_extern Tryz.prog 99 _ (ReflectliteValue.method (ReflectliteValue.valueError "reflectlite.Value.IsNil" 0) ReflectliteValue.isNil) Tryz.func99 (by kernel_rfl) (by kernel_rfl) (by kernel_rfl) (by kernel_rfl)]
  rw [rlm]
  simp only [Sem.run_bind, Tryz.partsPP, Result.andThen]
  simp [ReflectliteValue.isNil, loadVar, isAgg, underlying, Tryz.underlying150, ha, Result.andThen]
theorem Tryz.inPK (a p : Addr) (W : World) (ha : W.cell? a = some (.pointer (some p))) :
    (callFunc 99 #[rval 153 a 150]).run Tryz.prog W = .ok (.value (.bool false)) W := by
  rw [@run_callFunc_extern Tryz.prog 99 _ (ReflectliteValue.method (ReflectliteValue.valueError "reflectlite.Value.IsNil" 0) ReflectliteValue.isNil) Tryz.func99 (by kernel_rfl) (by kernel_rfl) (by kernel_rfl) (by kernel_rfl)]
  rw [rlm]
  simp only [Sem.run_bind, Tryz.partsPK, Result.andThen]
  simp [ReflectliteValue.isNil, loadVar, isAgg, underlying, Tryz.underlying153, ha, Result.andThen]
theorem Tryz.eoPP (w : World) : (Rtype.elem? 150).run Tryz.prog w = .ok (some 148) w := by kernel_rfl
theorem Tryz.eoPK (w : World) : (Rtype.elem? 153).run Tryz.prog w = .ok (some 49) w := by kernel_rfl
theorem Tryz.mkR (p : Addr) (w : World) : (ReflectliteValue.mk 148 p ReflectliteValue.flagAddr).run Tryz.prog w = .ok (rval 148 p 406) w := by kernel_rfl
theorem Tryz.mkK (p : Addr) (w : World) : (ReflectliteValue.mk 49 p ReflectliteValue.flagAddr).run Tryz.prog w = .ok (rval 49 p 386) w := by kernel_rfl
theorem Tryz.evPP (a p : Addr) (W : World) (ha : W.cell? a = some (.pointer (some p))) :
    (callFunc 108 #[rval 150 a 150]).run Tryz.prog W = .ok (.value (rval 148 p 406)) W := by
  rw [@run_callFunc_extern Tryz.prog 108 _ (ReflectliteValue.method (ReflectliteValue.valueError "reflectlite.Value.Elem" 0) ReflectliteValue.elem) Tryz.func108 (by kernel_rfl) (by kernel_rfl) (by kernel_rfl) (by kernel_rfl)]
  rw [rlm]
  simp only [Sem.run_bind, Tryz.partsPP, Result.andThen]
  simp [ReflectliteValue.elem, loadVar, isAgg, underlying, Tryz.underlying150, ha, Result.andThen, Tryz.eoPP, Tryz.mkR]
theorem Tryz.evPK (a p : Addr) (W : World) (ha : W.cell? a = some (.pointer (some p))) :
    (callFunc 108 #[rval 153 a 150]).run Tryz.prog W = .ok (.value (rval 49 p 386)) W := by
  rw [@run_callFunc_extern Tryz.prog 108 _ (ReflectliteValue.method (ReflectliteValue.valueError "reflectlite.Value.Elem" 0) ReflectliteValue.elem) Tryz.func108 (by kernel_rfl) (by kernel_rfl) (by kernel_rfl) (by kernel_rfl)]
  rw [rlm]
  simp only [Sem.run_bind, Tryz.partsPK, Result.andThen]
  simp [ReflectliteValue.elem, loadVar, isAgg, underlying, Tryz.underlying153, ha, Result.andThen, Tryz.eoPK, Tryz.mkK]
theorem rls (v x : Value) : ReflectliteValue.set #[v, x] = (do
    let (some (dst, a, fl), some (src, b, _)) := (← ReflectliteValue.parts v, ← ReflectliteValue.parts x)
      | unsupported (.noEntry "extern/(internal/reflectlite.Value).Set.zeroValue")
    if fl / ReflectliteValue.flagAddr % 2 == 0 then unsupported (.noEntry "extern/(internal/reflectlite.Value).Set.unaddressable")
    let val ← loadVar src b
    if ← Rtype.directlyAssignable dst src then storeVar dst a val
    else if ← Rtype.implements dst src then
      if (← Rtype.kind src) == 20 then
        match val with
        | .nilIface => unsupported (.noEntry "extern/reflectlite: a nil value of one interface type handed on as a value of another")
        | _ => storeVar dst a val
      else storeVar dst a (.iface src val)
    else panicString ("reflectlite.Set: value of type " ++ (← Rtype.spelt src) ++ " is not assignable to type " ++ (← Rtype.spelt dst))
    pure (.tuple #[])) := rfl
theorem Tryz.partsRa (a : Addr) (w : World) : (ReflectliteValue.parts (rval 148 a 406)).run Tryz.prog w = .ok (some (148, a, 406)) w := by kernel_rfl
theorem Tryz.partsR (a : Addr) (w : World) : (ReflectliteValue.parts (rval 148 a 150)).run Tryz.prog w = .ok (some (148, a, 150)) w := by kernel_rfl
theorem Tryz.partsKa (a : Addr) (w : World) : (ReflectliteValue.parts (rval 49 a 386)).run Tryz.prog w = .ok (some (49, a, 386)) w := by kernel_rfl
theorem Tryz.partsK (a : Addr) (w : World) : (ReflectliteValue.parts (rval 49 a 130)).run Tryz.prog w = .ok (some (49, a, 130)) w := by kernel_rfl
theorem Tryz.direct56 (w : World) : (Rtype.directlyAssignable 148 148).run Tryz.prog w = .ok true w := by kernel_rfl
theorem Tryz.direct22 (w : World) : (Rtype.directlyAssignable 49 49).run Tryz.prog w = .ok true w := by kernel_rfl
theorem Tryz.setR (ta b : Addr) (e : Nat) (old : Value) (W : World) (hb : W.cell? b = some (.pointer (some ⟨e, 0, none⟩))) (ht : W.cell? ta = some old) (hf : W.frozen? ta = false) :
    (callFunc 109 #[rval 148 ta 406, rval 148 b 150]).run Tryz.prog W = .ok (.value (.tuple #[])) (W.setCell ta (.pointer (some ⟨e, 0, none⟩))) := by
  rw [@run_callFunc_extern Tryz.prog 109 _ ReflectliteValue.set Tryz.func109 (by kernel_rfl) (by kernel_rfl) (by kernel_rfl) (by kernel_rfl)]
  rw [rls]
  simp only [Sem.run_bind, Tryz.partsRa, Tryz.partsR, Result.andThen]
  simp [ReflectliteValue.flagAddr, loadVar, isAgg, underlying, Tryz.underlying148, hb, Result.andThen, Tryz.direct56, storeVar, Value.cells, storeCells, Addr.add]
  rw [run_store Tryz.prog W ta _ _ (by rfl)]
  simp [ht, hf]
theorem Tryz.setK (ta b : Addr) (k : Int) (old : Value) (W : World) (hb : W.cell? b = some (.int .i64 k)) (ht : W.cell? ta = some old) (hf : W.frozen? ta = false) :
    (callFunc 109 #[rval 49 ta 386, rval 49 b 130]).run Tryz.prog W = .ok (.value (.tuple #[])) (W.setCell ta (.int .i64 k)) := by
  rw [@run_callFunc_extern Tryz.prog 109 _ ReflectliteValue.set Tryz.func109 (by kernel_rfl) (by kernel_rfl) (by kernel_rfl) (by kernel_rfl)]
  rw [rls]
  simp only [Sem.run_bind, Tryz.partsKa, Tryz.partsK, Result.andThen]
  simp [ReflectliteValue.flagAddr, loadVar, isAgg, underlying, Tryz.underlying49, hb, Result.andThen, Tryz.direct22, storeVar, Value.cells, storeCells, Addr.add]
  rw [run_store Tryz.prog W ta _ _ (by rfl)]
  simp [ht, hf]
end Go.Proofs.YticobikhndlejabGreatDoor

/- errors.As by contracts. -/
namespace Go.Proofs.YticobikhndlejabGreatDoor
open Go.RowKit Go.Extern.Stop Go.Stop Go.Extern

theorem lt_of_cellE {w : World} {a : Addr} {v : Value} (h : w.cell? a = some v) : a.block < w.heap.size := by
  rcases Nat.lt_or_ge a.block w.heap.size with h' | h'
  · exact h'
  · simp [World.cell?, Array.getElem?_eq_none h'] at h

set_option maxRecDepth 100000 in
set_option maxHeartbeats 1000000 in
theorem as1_hitR (p : Nat) (t a : Addr) (old : Value) (w : World) (ha : w.cell? a = some (.pointer (some t))) (ht : w.cell? t = some old) (hf : w.frozen? t = false) :
    Calls Tryz.prog 100 #[errR p, .iface 150 (.pointer (some t)), rval 150 a 150, rty 148] w fun e w' => e = .returned (.bool true) ∧
      w' = ((w.alloc (.cells #[hdl 150, .pointer (some a), .int .u64 150] 178)).alloc (.cells #[.pointer (some ⟨p, 0, none⟩)] 148)).setCell t (.pointer (some ⟨p, 0, none⟩)) := by
  have hla := lt_of_cellE ha
  have hlt := lt_of_cellE ht
  have c1 := Tryz.toR p
  have c2 := Tryz.asRR
  have c3 := Tryz.evPP a t (w.alloc (.cells #[hdl 150, .pointer (some a), .int .u64 150] 178)) (by rw [World.cell?_alloc_lt _ _ _ hla]; exact ha)
  have c4 := Tryz.voR p
  have c5 := Tryz.setR t ⟨w.heap.size + 1, 0, none⟩ p old ((w.alloc (.cells #[hdl 150, .pointer (some a), .int .u64 150] 178)).alloc (.cells #[.pointer (some ⟨p, 0, none⟩)] 148)) (by rw [World.cell?_alloc_at _ _ _ _ (by simp)]; rfl)
    (by rw [World.cell?_alloc_lt _ _ t (by simp; omega), World.cell?_alloc_lt _ _ t hlt]; exact ht) (by rw [World.frozen?_alloc_old _ _ t (by simp; omega), World.frozen?_alloc_old _ _ t (by omega)]; exact hf)
  clear ha ht hf hla hlt
  go_enter Tryz.func100, Tryz.ntmps100
  go_wp2
  refine wp_loop_rounds 1 ?_
  rw [rounds_succ]
  go_wp2
  go_ret
  exact ⟨rfl, rfl⟩
set_option maxRecDepth 100000 in
set_option maxHeartbeats 1000000 in
theorem as1_hitK (k : Int) (t a : Addr) (old : Value) (w : World) (ha : w.cell? a = some (.pointer (some t))) (ht : w.cell? t = some old) (hf : w.frozen? t = false) :
    Calls Tryz.prog 100 #[errK k, .iface 153 (.pointer (some t)), rval 153 a 150, rty 49] w fun e w' => e = .returned (.bool true) ∧
      w' = ((w.alloc (.cells #[hdl 153, .pointer (some a), .int .u64 150] 178)).alloc (.cells #[.int .i64 k] 49)).setCell t (.int .i64 k) := by
  have hla := lt_of_cellE ha
  have hlt := lt_of_cellE ht
  have c1 := Tryz.cfTypeOfK k
  have c2 := Tryz.asKK
  have c3 := Tryz.evPK a t (w.alloc (.cells #[hdl 153, .pointer (some a), .int .u64 150] 178)) (by rw [World.cell?_alloc_lt _ _ _ hla]; exact ha)
  have c4 := Tryz.voK k
  have c5 := Tryz.setK t ⟨w.heap.size + 1, 0, none⟩ k old ((w.alloc (.cells #[hdl 153, .pointer (some a), .int .u64 150] 178)).alloc (.cells #[.int .i64 k] 49)) (by rw [World.cell?_alloc_at _ _ _ _ (by simp)]; rfl)
    (by rw [World.cell?_alloc_lt _ _ t (by simp; omega), World.cell?_alloc_lt _ _ t hlt]; exact ht) (by rw [World.frozen?_alloc_old _ _ t (by simp; omega), World.frozen?_alloc_old _ _ t (by omega)]; exact hf)
  clear ha ht hf hla hlt
  go_enter Tryz.func100, Tryz.ntmps100
  go_wp2
  refine wp_loop_rounds 1 ?_
  rw [rounds_succ]
  go_wp2
  go_ret
  exact ⟨rfl, rfl⟩
set_option maxRecDepth 100000 in
set_option maxHeartbeats 1000000 in
theorem as1_missK (k : Int) (t a : Addr) (w : World) :
    Calls Tryz.prog 100 #[errK k, .iface 150 (.pointer (some t)), rval 150 a 150, rty 148] w fun e w' => e = .returned (.bool false) ∧
      w' = w.alloc (.cells #[hdl 150, .pointer (some a), .int .u64 150] 178) := by
  have c1 := Tryz.cfTypeOfK k
  have c2 := Tryz.asKR
  have c3 := Tryz.noAsK
  have c4 := Tryz.noUnK
  have c5 := Tryz.noUnsK
  go_enter Tryz.func100, Tryz.ntmps100
  go_wp2
  refine wp_loop_rounds 1 ?_
  rw [rounds_succ]
  go_wp2
  go_ret
  exact ⟨rfl, rfl⟩
end Go.Proofs.YticobikhndlejabGreatDoor

/- errors.As, api.Told, plain.told by contracts. -/
namespace Go.Proofs.YticobikhndlejabGreatDoor
open Go.RowKit Go.Extern.Stop Go.Stop Go.Extern

set_option maxRecDepth 100000 in
theorem as_nil (t : Value) (w : World) : Calls Tryz.prog 84 #[.nilIface, t] w fun e w' => e = .returned (.bool false) ∧ w = w' := by
  go_enter Tryz.func84, Tryz.ntmps84
  go_wp2
  go_ret
  exact ⟨rfl, rfl⟩
/-- the world behind the first two blocks of errors.As -/
abbrev asW (w : World) (t : Nat) (b : Nat) : World := (w.alloc (.cells #[.pointer (some ⟨t, 0, none⟩)] b)).alloc (.cells #[hdl b, .pointer (some ⟨w.heap.size, 0, none⟩), .int .u64 150] 178)
theorem ErrVar.alloc {w : World} (h : ErrVar w) (o : Obj) : ErrVar (w.alloc o) := by
  have := lt_of_cellE h
  unfold ErrVar
  rw [World.cell?_alloc_lt _ _ _ this]; exact h
set_option maxRecDepth 100000 in
set_option maxHeartbeats 1000000 in
theorem as_hitR (p t : Nat) (old : Value) (w : World) (hg : ErrVar w) (ht : w.cell? ⟨t, 0, none⟩ = some old) (hf : w.frozen? ⟨t, 0, none⟩ = false) :
    Calls Tryz.prog 84 #[errR p, .iface 150 (.pointer (some ⟨t, 0, none⟩))] w fun e w' => e = .returned (.bool true) ∧
      ∃ o1 o2 o3 o4, w' = ((((w.alloc o1).alloc o2).alloc o3).alloc o4).setCell ⟨t, 0, none⟩ (.pointer (some ⟨p, 0, none⟩)) := by
  have hlt := lt_of_cellE ht
  have h0 := lt_of_cellE hg
  have hg1 : ErrVar (asW w t 150) := (hg.alloc _).alloc _
  have ht1 : (asW w t 150).cell? ⟨t, 0, none⟩ = some old := by
    rw [World.cell?_alloc_lt _ _ _ (by simp; exact Nat.lt_succ_of_lt hlt), World.cell?_alloc_lt _ _ _ hlt]; exact ht
  have hf1 : (asW w t 150).frozen? ⟨t, 0, none⟩ = false := by
    have : t < w.heap.size := hlt
    rw [World.frozen?_alloc_old _ _ _ (by simp; omega), World.frozen?_alloc_old _ _ _ (by show t ≠ _; omega)]; exact hf
  have ha1 : (asW w t 150).cell? ⟨w.heap.size, 0, none⟩ = some (.pointer (some ⟨t, 0, none⟩)) := by simp
  have hc := as1_hitR p ⟨t, 0, none⟩ ⟨w.heap.size, 0, none⟩ old _ ha1 ht1 hf1
  have c1 := Tryz.voPP ⟨t, 0, none⟩
  have c2 := Tryz.tyPP
  have c3 := Tryz.kdPP
  have c4 := Tryz.inPP ⟨w.heap.size, 0, none⟩ ⟨t, 0, none⟩ _ ha1
  have c5 := Tryz.elPP
  have c6 := Tryz.kdR
  have c7 := Tryz.imR
  clear ht1 hf1 ha1 hg ht hf hlt h0
  unfold ErrVar at hg1
  have HC := Lib.hid hc
  clear hc
  go_enter Tryz.func84, Tryz.ntmps84
  go_wp2_with (go_at_call 100; refine HC.out.mono ?_; rintro e w' ⟨rfl, rfl⟩)
  go_ret
  exact ⟨rfl, _, _, _, _, rfl⟩
set_option maxRecDepth 100000 in
set_option maxHeartbeats 1000000 in
theorem as_hitK (k : Int) (t : Nat) (old : Value) (w : World) (hg : ErrVar w) (ht : w.cell? ⟨t, 0, none⟩ = some old) (hf : w.frozen? ⟨t, 0, none⟩ = false) :
    Calls Tryz.prog 84 #[errK k, .iface 153 (.pointer (some ⟨t, 0, none⟩))] w fun e w' => e = .returned (.bool true) ∧
      ∃ o1 o2 o3 o4, w' = ((((w.alloc o1).alloc o2).alloc o3).alloc o4).setCell ⟨t, 0, none⟩ (.int .i64 k) := by
  have hlt := lt_of_cellE ht
  have h0 := lt_of_cellE hg
  have hg1 : ErrVar (asW w t 153) := (hg.alloc _).alloc _
  have ht1 : (asW w t 153).cell? ⟨t, 0, none⟩ = some old := by
    rw [World.cell?_alloc_lt _ _ _ (by simp; exact Nat.lt_succ_of_lt hlt), World.cell?_alloc_lt _ _ _ hlt]; exact ht
  have hf1 : (asW w t 153).frozen? ⟨t, 0, none⟩ = false := by
    have : t < w.heap.size := hlt
    rw [World.frozen?_alloc_old _ _ _ (by simp; omega), World.frozen?_alloc_old _ _ _ (by show t ≠ _; omega)]; exact hf
  have ha1 : (asW w t 153).cell? ⟨w.heap.size, 0, none⟩ = some (.pointer (some ⟨t, 0, none⟩)) := by simp
  have hc := as1_hitK k ⟨t, 0, none⟩ ⟨w.heap.size, 0, none⟩ old _ ha1 ht1 hf1
  have c1 := Tryz.voPK ⟨t, 0, none⟩
  have c2 := Tryz.tyPK
  have c3 := Tryz.kdPK
  have c4 := Tryz.inPK ⟨w.heap.size, 0, none⟩ ⟨t, 0, none⟩ _ ha1
  have c5 := Tryz.elPK
  have c6 := Tryz.kdK
  have c7 := Tryz.imK
  clear ht1 hf1 ha1 hg ht hf hlt h0
  unfold ErrVar at hg1
  have HC := Lib.hid hc
  clear hc
  go_enter Tryz.func84, Tryz.ntmps84
  go_wp2_with (go_at_call 100; refine HC.out.mono ?_; rintro e w' ⟨rfl, rfl⟩)
  go_ret
  exact ⟨rfl, _, _, _, _, rfl⟩
set_option maxRecDepth 100000 in
set_option maxHeartbeats 1000000 in
theorem as_missK (k : Int) (t : Nat) (w : World) (hg : ErrVar w) :
    Calls Tryz.prog 84 #[errK k, .iface 150 (.pointer (some ⟨t, 0, none⟩))] w fun e w' => e = .returned (.bool false) ∧
      ∃ o1 o2 o3, w' = (((w.alloc o1).alloc o2).alloc o3) := by
  have hg1 : ErrVar (asW w t 150) := (hg.alloc _).alloc _
  have ha1 : (asW w t 150).cell? ⟨w.heap.size, 0, none⟩ = some (.pointer (some ⟨t, 0, none⟩)) := by simp
  have hc := as1_missK k ⟨t, 0, none⟩ ⟨w.heap.size, 0, none⟩ (asW w t 150)
  have c1 := Tryz.voPP ⟨t, 0, none⟩
  have c2 := Tryz.tyPP
  have c3 := Tryz.kdPP
  have c4 := Tryz.inPP ⟨w.heap.size, 0, none⟩ ⟨t, 0, none⟩ _ ha1
  have c5 := Tryz.elPP
  have c6 := Tryz.kdR
  have c7 := Tryz.imR
  clear ha1 hg
  unfold ErrVar at hg1
  have HC := Lib.hid hc
  clear hc
  go_enter Tryz.func84, Tryz.ntmps84
  go_wp2_with (go_at_call 100; refine HC.out.mono ?_; rintro e w' ⟨rfl, rfl⟩)
  go_ret
  exact ⟨rfl, _, _, _, rfl⟩
end Go.Proofs.YticobikhndlejabGreatDoor

/- api.Told, plain.told by contracts. -/
namespace Go.Proofs.YticobikhndlejabGreatDoor
open Go.RowKit Go.Extern.Stop Go.Stop Go.Extern

theorem ErrVar.chg {S : Nat → Prop} {w w' : World} (h : ErrVar w) (hc : Chg S w w') (h0 : ¬ S 0) : ErrVar w' := (hc.cell (p := ⟨0, 0, none⟩) (lt_of_cell h) h0).trans h
theorem ReqErr.lt {w : World} {p : Nat} {r t k : Int} (h : ReqErr w p r t k) : p < w.heap.size := lt_of_cell h.c0
theorem ReqErr.chg {S : Nat → Prop} {w w' : World} {p : Nat} {r t k : Int} (h : ReqErr w p r t k) (hc : Chg S w w') (hp : ¬ S p) : ReqErr w' p r t k :=
  ⟨(hc.cell (p := ⟨p, 0, none⟩) h.lt hp).trans h.c0, (hc.cell (p := ⟨p, 1, none⟩) h.lt hp).trans h.c1, (hc.cell (p := ⟨p, 2, none⟩) h.lt hp).trans h.c2⟩

set_option maxRecDepth 100000 in
theorem apiTold_nil (w : World) : Calls Tryz.prog 62 #[.nilIface] w fun e w' => e = .returned (.tuple #[.int .i64 0, .int .i64 (-1), .int .i64 0]) ∧ Below w.heap.size w w' := by
  go_enter Tryz.func62, Tryz.ntmps62
  go_wp2_with (go_at_call 84; refine (as_nil _ _).mono ?_; rintro e w' ⟨rfl, rfl⟩)
  go_ret3
  exact ⟨rfl, by go_grown⟩
set_option maxRecDepth 100000 in
theorem apiTold_K (k : Int) (w : World) (hg : ErrVar w) : Calls Tryz.prog 62 #[errK k] w fun e w' => e = .returned (.tuple #[.int .i64 k, .int .i64 (-1), .int .i64 0]) ∧ Below w.heap.size w w' := by
  have h1 := as_missK k w.heap.size (w.alloc (.cells #[.pointer none] 148)) (hg.alloc _)
  have H1 := Lib.hid h1
  have H2 := Lib.hid hg
  have h0 : 0 < w.heap.size := lt_of_cell hg
  clear h1 hg
  go_enter Tryz.func62, Tryz.ntmps62
  go_wp2_with fail
  refine H1.out.mono ?_
  rintro e w' ⟨rfl, o1, o2, o3, rfl⟩
  go_wp2_with fail
  refine (as_hitK k (w.heap.size + 1 + 1 + 1 + 1) (.int .i64 0) _ ?_ ?_ ?_).mono ?_
  · exact ((((H2.out.alloc _).alloc _).alloc _).alloc _).alloc _
  · exact cell_new (by simp)
  · exact free_new (by simp)
  rintro e w' ⟨rfl, o4, o5, o6, o7, rfl⟩
  go_wp2
  go_ret3
  exact ⟨rfl, by go_grown⟩

set_option maxRecDepth 100000 in
theorem apiTold_R (p : Nat) (r t k : Int) (w : World) (hg : ErrVar w) (hp : ReqErr w p r t k) : Calls Tryz.prog 62 #[errR p] w fun e w' => e = .returned (.tuple #[.int .i64 k, .int .i64 r, .int .i64 t]) ∧ Below w.heap.size w w' := by
  have hlt := hp.lt
  have h1 := as_hitR p w.heap.size (.pointer none) (w.alloc (.cells #[.pointer none] 148)) (hg.alloc _) (by simp) (by simp)
  have H1 := Lib.hid h1
  have H2 := Lib.hid hp
  clear h1 hp
  go_enter Tryz.func62, Tryz.ntmps62
  go_wp2_with fail
  refine H1.out.mono ?_
  rintro e w' ⟨rfl, o1, o2, o3, o4, hw⟩
  have hb : Below w.heap.size w w' := by subst hw; go_grown
  have hr := H2.out.chg (chgB hb (fun _ => False)) (fun h => h)
  have hc : w'.cell? ⟨w.heap.size, 0, none⟩ = some (.pointer (some ⟨p, 0, none⟩)) := by subst hw; exact World.cell?_setCell_same' _ _ _ (by simp [go_sem])
  clear hw H1 H2
  obtain ⟨c0, c1, c2⟩ := hr
  go_wp2
  go_region
  go_wp2
  go_ret3
  exact ⟨rfl, hb.drew⟩

/-- WHAT told ANSWERS: the kind, the request, the tries; that errors.Is says the same. -/
abbrev plErr (k r t : Int) : Value := .agg #[.int .i64 k, .int .i64 r, .int .i64 t, .bool true]

set_option maxRecDepth 100000 in
set_option maxHeartbeats 1000000 in
/-- plain.told, out of what api.Told and errors.Is say of the error. -/
theorem told_of (err : Value) (k r t : Int) (w : World) (_hk : 0 ≤ k ∧ k ≤ 10)
    (hT : Calls Tryz.prog 62 #[err] (w.alloc (.cells #[.int .i64 0, .int .i64 0, .int .i64 0, .bool false] 51)) fun e w' => e = .returned (.tuple #[.int .i64 k, .int .i64 r, .int .i64 t]) ∧ Below (w.heap.size + 1) (w.alloc (.cells #[.int .i64 0, .int .i64 0, .int .i64 0, .bool false] 51)) w')
    (hI : ∀ (i : Int) (W : World), 1 ≤ i → i ≤ 10 → Below w.heap.size w W → Calls Tryz.prog 63 #[err, errK i] W fun e w' => e = .returned (.bool (k == i)) ∧ W = w') :
    Calls Tryz.prog 36 #[err] w fun e w' => e = .returned (plErr k r t) ∧ Below w.heap.size w w' := by
  have HT := Lib.hid hT
  have HI := Lib.hid hI
  clear hT hI
  go_enter Tryz.func36, Tryz.ntmps36
  go_wp2_with fail
  refine HT.out.mono ?_
  rintro e w1 ⟨rfl, hb⟩
  go_wp2_with fail
  have hbW : Below w.heap.size w (w1.alloc (.cells #[.int .i64 k, .int .i64 r, .int .i64 t, .bool true] 51)) :=
    ((((Below.refl _ _).alloc (Nat.le_refl _) _).trans (hb.mono (by omega))).alloc (by have := hb.size; simp at this; omega) _)
  have hbd : w.heap.size < w1.heap.size := by have := hb.size; simp at this; omega
  go_loop [7] (fun i => ∃ j : Int, 1 ≤ j ∧ j ≤ 11 ∧ i = .int .i64 j) (fun i => (11 - intOf i).toNat)
  case atStart => exact ⟨1, by omega, by omega, rfl⟩
  case round =>
    obtain ⟨j, hj1, hj2, rfl⟩ := hrel
    by_cases hlt : j ≤ 10
    · have hs : (j == k) = (k == j) := by rw [Bool.eq_iff_iff]; simp; exact eq_comm
      have hs2 : ((k == j) != (k == j)) = false := by simp
      have HW := Lib.hid hbW
      clear hbW
      go_wp2_with (go_at_call 63; refine (HI.out j _ (by omega) (by omega) HW.out).mono ?_; rintro e w' ⟨rfl, rfl⟩)
      go_round
      case rel => exact ⟨j + 1, by omega, by omega, rfl⟩
      case measure => simp [intOf]; omega
    · have hc : ∀ i, w1.cell? ⟨w.heap.size, i, none⟩ = (#[.int .i64 0, .int .i64 0, .int .i64 0, .bool false] : Array Value)[i]? := fun i => (hb.cell (p := ⟨w.heap.size, i, none⟩) (by show w.heap.size < _; omega)).trans (by simp)
      have hf : ∀ i, w1.frozen? ⟨w.heap.size, i, none⟩ = false := fun i => (hb.frozen (p := ⟨w.heap.size, i, none⟩) (by show w.heap.size < _; omega)).trans (by simp)
      have c0 := hc 0
      have c1 := hc 1
      have c2 := hc 2
      have c3 := hc 3
      have f0 := hf 0
      have f1 := hf 1
      have f2 := hf 2
      have f3 := hf 3
      simp at c0 c1 c2 c3
      have HW := Lib.hid hbW
      clear hc hf hbW
      go_wp2
      refine bodyPost_ret (v := plErr k r t) ?_ rfl ⟨rfl, ?_⟩
      · simp [results, Tryz.results36, go_sem, c0, c1, c2, c3, hbd]
      · have hb0 : Below w.heap.size w w1 := ((Below.refl _ _).alloc (Nat.le_refl _) _).trans (hb.mono (by omega))
        go_grown

theorem told_nil (w : World) : Calls Tryz.prog 36 #[.nilIface] w fun e w' => e = .returned (plErr 0 (-1) 0) ∧ Below w.heap.size w w' := by
  refine told_of _ 0 (-1) 0 w (by omega) ((apiTold_nil _).mono fun e w' ⟨he, hb⟩ => ⟨he, by simpa using hb⟩) fun i W h1 h2 _ => (is_nil i W).mono fun e w' ⟨he, hw⟩ => ⟨?_, hw⟩
  have : ((0 : Int) == i) = false := by simp; omega
  rw [he, this]
theorem told_K (k : Int) (w : World) (hk : 0 ≤ k ∧ k ≤ 10) (hg : ErrVar w) : Calls Tryz.prog 36 #[errK k] w fun e w' => e = .returned (plErr k (-1) 0) ∧ Below w.heap.size w w' :=
  told_of _ k (-1) 0 w hk ((apiTold_K k _ (hg.alloc _)).mono fun e w' ⟨he, hb⟩ => ⟨he, by simpa using hb⟩) fun i W h1 h2 _ => is_kind k i W
theorem told_R (p : Nat) (r t k : Int) (w : World) (hk : 0 ≤ k ∧ k ≤ 10) (hg : ErrVar w) (hp : ReqErr w p r t k) : Calls Tryz.prog 36 #[errR p] w fun e w' => e = .returned (plErr k r t) ∧ Below w.heap.size w w' :=
  told_of _ k r t w hk ((apiTold_R p r t k _ (hg.alloc _) (hp.chg ((Chg.refl (fun _ => False) w).alloc _) (fun h => h))).mono fun e w' ⟨he, hb⟩ => ⟨he, by simpa using hb⟩) fun i W h1 h2 hb => is_req p r t k i W (hp.chg (chgB hb (fun _ => False)) (fun h => h))
end Go.Proofs.YticobikhndlejabGreatDoor
