/- Queues: true, whatever the script. Printed by gen_play.py. -/
import Derived.Test.YticobikhndlejaaGreatDoorScZI
import Derived.Test.YticobikhndlejaaGreatDoorScF
import Derived.ChangeSame
import Derived.ChangeVars
import Derived.JoinedOf
import Derived.RowKit
import Derived.RowKitTokens
import Derived.LaidLaws
import Derived.LaidHandle
import Derived.Stop.Joined
import Derived.Deep.Slices
import Derived.Carry
import Derived.SevenTiedAt
import Derived.OpenShut
namespace Go.Proofs.YticobikhndlejaaGreatDoor
open Go.RowKit Go.Shelf Go.Lib

set_option maxRecDepth 100000 in
set_option maxHeartbeats 2000000 in
theorem queues_m (w : World) (he : ErrVar w) (bp : Option Addr) (cap : Nat) (ops : List OpR) (h : Scr w bp ops) (hS : ∀ o ∈ ops, o.S.size ≤ 1000000000000000) (hA : ∀ o ∈ ops, -9223372036854775808 ≤ o.A ∧ o.A ≤ 9223372036854775807) :
    Calls Tryz.prog 10 #[.slice bp ops.length cap] w fun y w' => y = .returned (.bool true) ∧ Below w.heap.size w w' := by
  obtain ⟨W0, hW0⟩ : ∃ W0, w.alloc (.cells #[.int .i64 9, .int .i64 10, .int .i64 11, .int .i64 12, .int .i64 13] 3) = W0 := ⟨_, rfl⟩
  have hb : Below w.heap.size w W0 := by rw [← hW0]; exact (Below.refl _ _).alloc (Nat.le_refl _) _
  have hr : W0.ownsRow 0 3 1 (.slice (some ⟨w.heap.size, 0, none⟩) 5 5) ([9, 10, 11, 12, 13] : List Int).length (([9, 10, 11, 12, 13] : List Int).map fun n => Value.int .i64 n) :=
    ⟨rfl, .inr ⟨w.heap.size, 5, #[.int .i64 9, .int .i64 10, .int .i64 11, .int .i64 12, .int .i64 13], rfl, Nat.zero_le _, by rw [← hW0]; exact World.alloc_heap_new _ _, Nat.le_refl _, by decide, rfl, rfl⟩⟩
  have hp := plays_m W0 (cell_later hb he) bp cap ops (h.below hb) hS hA _ [9, 10, 11, 12, 13] 0 hr (by decide) (by decide)
  obtain ⟨n, hn⟩ : ∃ n, ops.length = n := ⟨_, rfl⟩
  rw [hn] at hp ⊢
  have HP := Lib.hid hp
  have HB := Lib.hid hb
  have HW0 := Lib.hid hW0
  clear he h hS hA hn hp hb hr hW0
  go_enter Tryz.func10, Tryz.ntmps10
  go_wp2_with fail
  rw [HW0.out]
  refine HP.out.mono ?_
  rintro y w1 ⟨rfl, hb1⟩
  have HB1 := Lib.hid (HB.out.trans (hb1.mono HB.out.size))
  clear hb1
  go_wp2_with fail
  go_ret
  exact ⟨rfl, HB1.out⟩
end Go.Proofs.YticobikhndlejaaGreatDoor

/- What the row's condition on errors.errorType gives a walk; a world that meets it. -/
namespace Go.Proofs.YticobikhndlejaaGreatDoor
open Go.ChangeShapes Go.WideShapes Go.RowKit

abbrev laidL : List (String × DataW Unit) := [("errors.errorType", Rows.laid_errors_errorType)]
theorem Tryz.own : ownKnob Tryz.prog.godebug = none := by kernel_rfl
theorem Tryz.et : Tryz.prog.globalNamed "errors.errorType" = some 0 := by kernel_rfl
theorem Tryz.rt : (Tryz.prog.cutTypes.find? (·.1 == "internal/reflectlite.rtype")).map (·.2) = some 205 := by kernel_rfl
theorem Tryz.oneRow : ((List.range 286).filter fun t => Tryz.prog.rowNamed t [101, 114, 114, 111, 114]) = [81] := by kernel_rfl
theorem Tryz.size : Tryz.prog.types.size = 286 := by kernel_rfl

/-- WHAT THE CONDITION GIVES A WALK: the variable's one cell. -/
theorem handle_of_laid {W : World} (h : laidMetH Tryz.prog laidL W) : ErrVar W := by
  have h' : laidMet Tryz.prog [] W ∧ handlesMet Tryz.prog laidL W := h
  obtain ⟨name, u, ty, e1, e2, e3, e4, e5⟩ := h'.2 _ (List.mem_singleton.2 rfl)
  have en : name = [101, 114, 114, 111, 114] := (Option.some.inj e1).symm
  subst en
  obtain rfl := Option.some.inj (Tryz.rt.symm.trans e2)
  have hm : ty ∈ (List.range 286).filter fun t => Tryz.prog.rowNamed t [101, 114, 114, 111, 114] := List.mem_filter.2 ⟨List.mem_range.2 (by rw [← Tryz.size]; exact e3), e4⟩
  rw [Tryz.oneRow] at hm
  obtain rfl := List.mem_singleton.1 hm
  have hh : typeHandle Tryz.prog 81 = .pointer (some ⟨1, 81, none⟩) := by kernel_rfl
  rw [hh] at e5
  simpa using World.var?_cell Tryz.et e5 0

/-- A world that meets the condition: the settled one, the variable's cell laid. -/
noncomputable def laidWorld (os : Os) : World :=
  let w0 := World.holding Tryz.prog os ⟨#[], #[], []⟩
  { w0 with heap := w0.heap.modify 0 fun
      | .cells _ t frozen => .cells #[rty 81] t frozen
      | o => o }
theorem laidWorld_met (os : Os) (args : Array Value) : laidMetH Tryz.prog laidL ((laidWorld os).forCall (fun _ _ => 0) ⟨#[], args, []⟩).memory :=
  laidMetH_of_parts (laidMet_nil _ _) (by kernel_rfl)
end Go.Proofs.YticobikhndlejaaGreatDoor

/- A script as an argument: opened at every step. -/
namespace Go.Proofs.YticobikhndlejaaGreatDoor
open Go.RowKit Go.Shelf Go.Lib Go.ChangeShapes Go.WideShapes Go.Deep

theorem weightsAll_mem {H : Type} {P : Program} {e : TypeId} : ∀ {l : List (DataW H)} {d : DataW H}, d ∈ l → ∀ n ∈ d.weights P e, n ∈ DataW.weightsAll P e l
  | a :: l, d, hd, n, hn => by
    simp only [DataW.weightsAll, List.mem_append]
    rcases List.mem_cons.1 hd with rfl | hd
    · exact Or.inl hn
    · exact Or.inr (weightsAll_mem hd n hn)
theorem cellsOp : Tryz.prog.cellsOf 73 = 5 := by kernel_rfl
theorem cellsI : Tryz.prog.cellsOf 3 = 1 := by kernel_rfl
theorem cellsS : Tryz.prog.cellsOf 9 = 1 := by kernel_rfl

instance : Inhabited OpR := ⟨⟨0, 0, 0, 0, ByteArray.empty⟩⟩
section
variable {H : Type} {enc : TypeId × Value → H} {W : World} {base : Nat} {sp : Nat → Bool} {held : Bool}
set_option maxRecDepth 100000 in
/-- One step, opened. -/
theorem open_op {n : Nat} {cs : List Value} {x : DataW H × List MemPlace} (h : DataW.trod enc Tryz.prog W base sp held n 73 cs = some x) :
    ∃ o : OpR, cs = [.int .i64 o.K, .int .i64 o.A, .int .i64 o.B, .int .i64 o.C, .string o.S] ∧ (-9223372036854775808 ≤ o.A ∧ o.A ≤ 9223372036854775807) ∧ o.S.size ∈ x.1.weights Tryz.prog 73 := by
  obtain ⟨xs, m, _, rfl, hl, hlen, hf⟩ := DataW.trod_struct Tryz.underlying73 h
  rw [cellsOp] at hl
  match cs, hl, xs, hlen with
  | [c0, c1, c2, c3, c4], _, [y0, y1, y2, y3, y4], _ =>
    have t0 : DataW.trod enc Tryz.prog W base sp held m 3 (List.take (Tryz.prog.cellsOf 3) (List.drop 0 [c0, c1, c2, c3, c4])) = some y0 := hf 0 _ rfl
    have t1 : DataW.trod enc Tryz.prog W base sp held m 3 (List.take (Tryz.prog.cellsOf 3) (List.drop 1 [c0, c1, c2, c3, c4])) = some y1 := hf 1 _ rfl
    have t2 : DataW.trod enc Tryz.prog W base sp held m 3 (List.take (Tryz.prog.cellsOf 3) (List.drop 2 [c0, c1, c2, c3, c4])) = some y2 := hf 2 _ rfl
    have t3 : DataW.trod enc Tryz.prog W base sp held m 3 (List.take (Tryz.prog.cellsOf 3) (List.drop 3 [c0, c1, c2, c3, c4])) = some y3 := hf 3 _ rfl
    have t4 : DataW.trod enc Tryz.prog W base sp held m 9 (List.take (Tryz.prog.cellsOf 9) (List.drop 4 [c0, c1, c2, c3, c4])) = some y4 := hf 4 _ rfl
    simp only [cellsI, cellsS, List.drop, List.take] at t0 t1 t2 t3 t4
    obtain ⟨K, hK, _, _⟩ := DataW.trod_int Tryz.underlying3 t0
    obtain ⟨A, hA, _, wA⟩ := DataW.trod_int Tryz.underlying3 t1
    obtain ⟨B, hB, _, _⟩ := DataW.trod_int Tryz.underlying3 t2
    obtain ⟨C, hC, _, _⟩ := DataW.trod_int Tryz.underlying3 t3
    obtain ⟨S, hS, e4, _⟩ := DataW.trod_string Tryz.underlying9 t4
    simp only [List.cons.injEq, and_true] at hK hA hB hC hS
    subst hK hA hB hC hS
    refine ⟨⟨K, A, B, C, S⟩, rfl, bounds_i64 wA, ?_⟩
    rw [e4]
    show S.size ∈ DataW.weights Tryz.prog 73 (.agg [y0.1, y1.1, y2.1, y3.1, .lit (.string S.data.toList)])
    rw [DataW.weights, Tryz.underlying73]
    simp only [List.map, DataW.weightsEach, List.mem_append]
    right; right; right; right; left
    rw [DataW.weights]
    simp
set_option maxRecDepth 100000 in
/-- A script, opened. -/
theorem open_ops {v : Value} {d : DataW H} {ps : List MemPlace} (hval : Value.okWide Tryz.prog W .any base 22 v) (h : DataW.Trod enc Tryz.prog W 0 sp held 22 v d ps) (hw : ∀ n ∈ d.weights Tryz.prog 22, n ≤ reachBytes) :
    ∃ bp cap, ∃ ops : List OpR, v = .slice bp ops.length cap ∧ Scr W bp ops ∧ (∀ o ∈ ops, o.S.size ≤ 1000000000000000) ∧ ∀ o ∈ ops, -9223372036854775808 ≤ o.A ∧ o.A ≤ 9223372036854775807 := by
  obtain ⟨fuel, h⟩ := h
  obtain ⟨a0, len0, cap0, rfl⟩ := okWide_slice Tryz.underlying22 hval
  rcases open_slice Tryz.underlying22 h with ⟨hc, _⟩ | ⟨a, len, cap, m, n, D, Pl, hc, _, hl, hm, hmm, hx, hall⟩
  · simp only [Value.cells, List.cons.injEq, and_true, Value.slice.injEq] at hc
    obtain ⟨rfl, rfl, rfl⟩ := hc
    exact ⟨none, 0, [], rfl, fun i o hi => by simp at hi, by simp, by simp⟩
  · simp only [Value.cells, List.cons.injEq, and_true, Value.slice.injEq] at hc
    obtain ⟨rfl, rfl, rfl⟩ := hc
    have hlm : len0 ≤ m := by rw [hmm]; split <;> omega
    have hd : d = .slice ((List.range len0).map D) ((List.range (m - len0)).map fun j => D (len0 + j)) := congrArg Prod.fst hx
    have each : ∀ i, i < len0 → ∃ o : OpR, W.cells? 0 (a.add (i * 5)) 5 = some [.int .i64 o.K, .int .i64 o.A, .int .i64 o.B, .int .i64 o.C, .string o.S] ∧ (-9223372036854775808 ≤ o.A ∧ o.A ≤ 9223372036854775807) ∧ o.S.size ≤ 1000000000000000 := fun i hi => by
      obtain ⟨cs', h1, h2⟩ := hall i (by omega)
      rw [cellsOp] at h1
      obtain ⟨o, rfl, hA, hS⟩ := open_op h2
      refine ⟨o, h1, hA, ?_⟩
      have := hw o.S.size (by
        rw [hd]
        simp only [DataW.weights, Tryz.underlying22]
        exact List.mem_cons_of_mem _ (List.mem_append_left _ (weightsAll_mem (List.mem_map.2 ⟨i, List.mem_range.2 hi, rfl⟩) _ hS)))
      simp only [reachBytes] at this
      omega
    obtain ⟨f, hf⟩ := choose_lt each
    have hmem : ∀ o ∈ (List.range len0).map f, ∃ i, i < len0 ∧ f i = o := fun o ho => by
      obtain ⟨i, hi, e⟩ := List.mem_map.1 ho
      exact ⟨i, List.mem_range.1 hi, e⟩
    refine ⟨some a, cap0, (List.range len0).map f, by simp, fun i o hi => ?_, fun o ho => ?_, fun o ho => ?_⟩
    · have hil : i < len0 := by simpa using (List.getElem?_eq_some_iff.1 hi).1
      have ho : f i = o := by simpa [List.getElem?_map, List.getElem?_range hil] using hi
      subst ho
      obtain ⟨_, _, hcell⟩ := World.cells?_some (hf i hil).1
      obtain ⟨sb, so, spot⟩ := a
      have hspot : spot = none := by
        obtain ⟨_, _, h0⟩ := World.cells?_some (hf 0 (by omega)).1
        simpa [Addr.add] using World.cell?_spot (h0 0 (by omega))
      subst hspot
      rw [Go.WideShapes.add_plain] at hcell
      have c0 := hcell 0 (by omega)
      have c1 := hcell 1 (by omega)
      have c2 := hcell 2 (by omega)
      have c3 := hcell 3 (by omega)
      have c4 := hcell 4 (by omega)
      rw [Go.WideShapes.add_plain] at c0 c1 c2 c3 c4
      exact ⟨sb, so, rfl, c0, c1, c2, c3, c4⟩
    · obtain ⟨i, hi, rfl⟩ := hmem o ho
      exact (hf i hi).2.2
    · obtain ⟨i, hi, rfl⟩ := hmem o ho
      exact (hf i hi).2.1
end
end Go.Proofs.YticobikhndlejaaGreatDoor
