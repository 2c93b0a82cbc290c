/- THE TABLE'S MAP: what look-up, store, delete, range, next, entry do on a block '.map entries clock' whose keys are numbers and whose values are pointers. -/
import Derived.Test.YticobikhndlejaaGreatDoorScA
import Derived.MapKept
import Derived.RangeFuncSeq
import Derived.Laws.NewFold
import Derived.RangeFuncBox
import Derived.RangeFuncNested
import Derived.RangeFuncBound
import Derived.RangeFuncCalls
import Derived.RangeFuncLeaves
import Derived.Shelf.Abstract
import Derived.OwnWalkIn
import Derived.TacticsInMore
import Derived.LoopNIn
import Derived.LoopIn
import Derived.Maps.AppendAt
import Derived.RegionTactic
import Derived.ChangeAlike
import Derived.BigQuiet
import Derived.Deep.QuietTactic
import Derived.BigRegion
namespace Go.Proofs.YticobikhndlejaaGreatDoor
open Go.RowKit

abbrev ptr (p : Nat) : Value := .pointer (some ⟨p, 0, none⟩)
def Ent.m (e : Ent) : MapEntry := { key := .int .i64 e.r.num, val := ptr e.p, born := e.born }
/-- the map's block -/
abbrev mapObj (es : List Ent) (clock : Nat) : Obj := .map (es.map Ent.m).toArray clock

theorem findNow_no (k : Int) : ∀ (es : List Ent) (i : Nat), (∀ e ∈ es, e.r.num ≠ k) → Instr.findNow (.int .i64) (.int .i64 k) (es.map Ent.m) i = some none
  | [], _, _ => rfl
  | e :: es, i, h => by
    have h1 : (k == e.r.num) = false := by simpa using fun hh => h e (by simp) hh.symm
    simp only [List.map_cons, Instr.findNow, Ent.m, Instr.sameNow, if_true, h1]
    exact findNow_no k es (i + 1) fun x hx => h x (by simp [hx])
theorem findNow_yes (k : Int) (e : Ent) (l2 : List Ent) (he : e.r.num = k) : ∀ (l1 : List Ent) (i : Nat), (∀ x ∈ l1, x.r.num ≠ k) →
    Instr.findNow (.int .i64) (.int .i64 k) ((l1 ++ e :: l2).map Ent.m) i = some (some (i + l1.length, ptr e.p))
  | [], i, _ => by simp [Instr.findNow, Ent.m, Instr.sameNow, he]
  | x :: l1, i, h => by
    have h1 : (k == x.r.num) = false := by simpa using fun hh => h x (by simp) hh.symm
    simp only [List.cons_append, List.map_cons, Instr.findNow, Ent.m, Instr.sameNow, if_true, h1]
    have := findNow_yes k e l2 he l1 (i + 1) fun y hy => h y (by simp [hy])
    rw [this]; simp; omega

section
variable {P : Program} {T K E : TypeId} {w : World} {mb clock : Nat} {es : List Ent}
theorem run_checkKey_int (hK : P.underlying K = some (.int .i64)) (b : Bool) (k : Int) (w : World) : (Instr.checkKey b 10000 K (.int .i64 k)).run P w = .ok () w := by
  unfold Instr.checkKey
  simp [run_underlying hK]
theorem getObj_run {w : World} {r : Nat} {o : Obj} (h : w.heap[r]? = some o) (hn : ∀ c t f, o ≠ .cells c t f) : (getObj r).run P w = .ok o w := by
  cases o <;> first | exact absurd rfl (hn _ _ _) | simp [getObj, Sem.run, h]
theorem setObj_run {w : World} {r : Nat} {o : Obj} (o' : Obj) (h : w.heap[r]? = some o) (hn : ∀ c t f, o ≠ .cells c t f) : (setObj r o').run P w = .ok () (w.putObj r o') := by
  cases o <;> first | exact absurd rfl (hn _ _ _) | simp [setObj, Sem.run, h, World.putObj]
theorem getMap_run {w : World} {es : List Ent} (h : w.heap[mb]? = some (mapObj es clock)) : (getObj mb).run P w = .ok (mapObj es clock) w := getObj_run h (by simp)
theorem setMap_run {w : World} {es : List Ent} (o : Obj) (h : w.heap[mb]? = some (mapObj es clock)) : (setObj mb o).run P w = .ok () (w.putObj mb o) := setObj_run o h (by simp)
theorem run_findKey {w : World} (hK : P.underlying K = some (.int .i64)) (k : Int) (l : List MapEntry) (r : Option (Nat × Value)) (h : Instr.findNow (.int .i64) (.int .i64 k) l 0 = some r) :
    (Instr.findKey K (.int .i64 k) l).run P w = .ok r w := by
  simp [Instr.findKey, run_underlying hK, h, Result.andThen]
theorem run_lookup_no (hT : P.underlying T = some (.map K E)) (hK : P.underlying K = some (.int .i64)) (hz : ∀ w, (zeroValue E).run P w = .ok (.pointer none) w) (hm : w.heap[mb]? = some (mapObj es clock)) (k : Int) (h : ∀ e ∈ es, e.r.num ≠ k) :
    (Instr.lookup T (.map (some mb)) (.int .i64 k) true).run P w = .ok (.tuple #[.pointer none, .bool false]) w ∧ (Instr.lookup T (.map (some mb)) (.int .i64 k) false).run P w = .ok (.pointer none) w := by
  constructor <;> simp [Instr.lookup, run_underlying hT, getMap_run hm, run_checkKey_int hK, run_findKey hK k _ _ (findNow_no k es 0 h), hz, Result.andThen]
theorem run_lookup_yes {l1 l2 : List Ent} {e : Ent} (hT : P.underlying T = some (.map K E)) (hK : P.underlying K = some (.int .i64)) (hm : w.heap[mb]? = some (mapObj (l1 ++ e :: l2) clock)) (k : Int) (he : e.r.num = k) (h : ∀ x ∈ l1, x.r.num ≠ k) :
    (Instr.lookup T (.map (some mb)) (.int .i64 k) true).run P w = .ok (.tuple #[ptr e.p, .bool true]) w ∧ (Instr.lookup T (.map (some mb)) (.int .i64 k) false).run P w = .ok (ptr e.p) w := by
  have f := run_findKey (P := P) (w := w) hK k _ _ (findNow_yes k e l2 he l1 0 h)
  simp only [List.map_append, List.map_cons] at f
  constructor <;> simp [Instr.lookup, run_underlying hT, getMap_run hm, run_checkKey_int hK, f, Result.andThen]
/-- A store at a key that is not there. -/
theorem run_update_new (hT : P.underlying T = some (.map K E)) (hK : P.underlying K = some (.int .i64)) (hm : w.heap[mb]? = some (mapObj es clock)) (r : Req) (p : Nat) (h : ∀ e ∈ es, e.r.num ≠ r.num) :
    (Instr.mapUpdate T (.map (some mb)) (.int .i64 r.num) (ptr p)).run P w = .ok () (w.putObj mb (mapObj (es ++ [⟨r, p, clock⟩]) (clock + 1))) := by
  simp [Instr.mapUpdate, run_underlying hT, getMap_run hm, run_checkKey_int hK, run_findKey hK r.num _ _ (findNow_no r.num es 0 h), Result.andThen, setMap_run _ hm]
  simp [mapObj, Ent.m]
/-- delete of what is there. -/
theorem run_delete_yes {l1 l2 : List Ent} {e : Ent} {ty : TypeId} (hT : P.underlying T = some (.map K E)) (hK : P.underlying K = some (.int .i64)) (hm : w.heap[mb]? = some (mapObj (l1 ++ e :: l2) clock)) (he : ∀ x ∈ l1, x.r.num ≠ e.r.num) :
    (Builtin.delete_ #[T, K] ty #[.map (some mb), .int .i64 e.r.num]).run P w = .ok (.tuple #[]) (w.putObj mb (mapObj (l1 ++ l2) clock)) := by
  have f := run_findKey (P := P) (w := w) hK e.r.num _ _ (findNow_yes e.r.num e l2 rfl l1 0 he)
  simp only [List.map_append, List.map_cons] at f
  have hl : ((l1 ++ e :: l2).map Ent.m).toArray.eraseIdxIfInBounds l1.length = ((l1 ++ l2).map Ent.m).toArray := by
    simp [Array.eraseIdxIfInBounds, List.eraseIdx_append_of_length_le]
  simp only [Builtin.delete_]
  simp [run_underlying hT, getMap_run hm, run_checkKey_int hK, f, Result.andThen, setMap_run _ hm]
  simp at hl
  rw [hl]
  simp [mapObj]
theorem choose_next {w : World} {n : Nat} (h : 0 < n) : ∃ k, k < n ∧ ((choose (.mapNext n)).run P w = .ok k w ∨ (choose (.mapNext n)).run P w = .ok k w.drew) := by
  by_cases h1 : n ≤ 1
  · exact ⟨0, h, .inl (by simp [Question.forced, h1])⟩
  · exact ⟨_, Nat.mod_lt _ h, .inr (by simp [Question.forced, h1, Question.cut]; rfl)⟩
/-- range: a new iterator. -/
theorem run_range_map (hT : P.underlying T = some (.map K E)) (hm : w.heap[mb]? = some (mapObj es clock)) :
    (Instr.range T (.map (some mb))).run P w = .ok (ptr w.heap.size) (w.alloc (.mapIter (some mb) clock #[] clock)) := by
  simp [Instr.range, run_underlying hT, getMap_run hm, Result.andThen]
/-- The iterator's block: which entries have come ('seen': when they were laid). -/
abbrev iterObj (mb clock : Nat) (seen : List Nat) : Obj := .mapIter (some mb) clock seen.toArray clock
/-- What is left of the entries. -/
def leftOf (es : List Ent) (seen : List Nat) : List Ent := es.filter fun e => !seen.contains e.born
theorem filter_m (f : MapEntry → Bool) (es : List Ent) : ((es.map Ent.m).toArray.filter f) = ((es.filter fun e => f e.m).map Ent.m).toArray := by
  simp [List.filter_map, Function.comp_def]
theorem next_over (ty : TypeId) (it : Nat) (seen : List Nat) (hI : w.heap[it]? = some (iterObj mb clock seen)) (hm : w.heap[mb]? = some (mapObj es clock)) (hb : ∀ e ∈ es, e.born < clock) (hl : leftOf es seen = []) :
    (Instr.next (ptr it) false ty).run P w = .ok (.tuple #[.bool false]) w := by
  have h1 : (!seen.toArray.isEmpty && !(es.map Ent.m).toArray.isEmpty && (es.map Ent.m).toArray.all fun x => decide (x.born ≥ clock)) = false := by
    cases es with
    | nil => simp
    | cons e es => have := hb e (by simp); simp [Ent.m]; omega
  have h2 : ((es.map Ent.m).toArray.filter fun e => !seen.toArray.contains e.born) = #[] := by
    rw [filter_m]
    have : (es.filter fun e => !seen.toArray.contains e.m.born) = leftOf es seen := by simp [leftOf, Ent.m]
    rw [this, hl]; rfl
  have hi := getObj_run (P := P) hI (by simp)
  simp only [Instr.next, Sem.run_bind, hi, getMap_run hm, Result.andThen]
  simp only [h1, h2]
  simp [Question.forced]
theorem next_some (ty : TypeId) (it : Nat) (seen : List Nat) (hI : w.heap[it]? = some (iterObj mb clock seen)) (hm : w.heap[mb]? = some (mapObj es clock)) (hb : ∀ e ∈ es, e.born < clock) (hl : leftOf es seen ≠ []) :
    ∃ e ∈ leftOf es seen, ∃ w', (Instr.next (ptr it) false ty).run P w = .ok (.tuple #[.bool true, .int .i64 e.r.num, ptr e.p]) w' ∧ (w' = w.putObj it (iterObj mb clock (seen ++ [e.born])) ∨ w' = w.drew.putObj it (iterObj mb clock (seen ++ [e.born]))) := by
  have h1 : (!seen.toArray.isEmpty && !(es.map Ent.m).toArray.isEmpty && (es.map Ent.m).toArray.all fun x => decide (x.born ≥ clock)) = false := by
    cases es with
    | nil => simp
    | cons e es => have := hb e (by simp); simp [Ent.m]; omega
  have h2 : ((es.map Ent.m).toArray.filter fun e => !seen.toArray.contains e.born) = ((leftOf es seen).map Ent.m).toArray := by
    rw [filter_m]
    have : (es.filter fun e => !seen.toArray.contains e.m.born) = leftOf es seen := by simp [leftOf, Ent.m]
    rw [this]
  have h3 : (((leftOf es seen).map Ent.m).toArray.filter fun x => decide (x.born < clock)) = ((leftOf es seen).map Ent.m).toArray := by
    rw [filter_m]
    congr 2
    refine List.filter_eq_self.2 fun e he => ?_
    exact decide_eq_true (hb e (List.mem_filter.1 he).1)
  have h4 : (((leftOf es seen).map Ent.m).toArray.filter fun x => decide (x.born ≥ clock)) = #[] := by
    rw [filter_m]
    have : ((leftOf es seen).filter fun e => decide (e.m.born ≥ clock)) = [] := by
      refine List.filter_eq_nil_iff.2 fun e he => ?_
      have := hb e (List.mem_filter.1 he).1
      simp [Ent.m]; omega
    rw [this]; rfl
  have hi := getObj_run (P := P) hI (by simp)
  have hi2 := fun o' => setObj_run (P := P) o' hI (by simp)
  have hI3 : w.drew.heap[it]? = some (iterObj mb clock seen) := hI
  have hi3 := fun o' => setObj_run (P := P) o' hI3 (by simp)
  simp only [Instr.next, Sem.run_bind, hi, getMap_run hm, Result.andThen]
  simp only [h1, h2, h3, h4]
  generalize leftOf es seen = L at *
  clear h1 h2 h3 h4 hi hb
  have hC : ((if (L.map Ent.m).toArray.isEmpty = true then #[none] else #[]) ++ Array.map some ((L.map Ent.m).toArray ++ #[])) = (L.map fun e => some e.m).toArray := by
    cases L with
    | nil => exact absurd rfl hl
    | cons e L => simp [Function.comp_def]
  simp only [hC]
  obtain ⟨k, hk, hch⟩ := choose_next (P := P) (w := w) (n := L.length) (by cases L with | nil => exact absurd rfl hl | cons => simp)
  have hget : (L.map fun e => some e.m).toArray[k]? = some (some (L[k]'hk).m) := by simp [hk]
  refine ⟨L[k], List.getElem_mem hk, ?_⟩
  rcases hch with hch | hch
  · refine ⟨_, ?_, .inl rfl⟩
    simp only [List.size_toArray, List.length_map, Bool.false_eq_true, if_false, Sem.run_bind, hch, Result.andThen, hget]
    simp [hi2, Ent.m]
  · refine ⟨_, ?_, .inr rfl⟩
    simp only [List.size_toArray, List.length_map, Bool.false_eq_true, if_false, Sem.run_bind, hch, Result.andThen, hget]
    simp [hi3, Ent.m]
theorem find_born : ∀ (es : List Ent) {e : Ent}, e ∈ es → (es.map Ent.born).Nodup → es.find? (fun x => x.m.born == e.born) = some e
  | [], _, he, _ => by cases he
  | x :: xs, e, he, hn => by
    simp only [List.map_cons, List.nodup_cons] at hn
    by_cases hx : x = e
    · subst hx; simp [Ent.m]
    · have hmem : e ∈ xs := by cases he with | head => exact absurd rfl hx | tail _ h => exact h
      have hne : x.born ≠ e.born := fun hh => hn.1 (hh ▸ List.mem_map_of_mem hmem)
      simp only [List.find?_cons]
      have : (x.m.born == e.born) = false := by simpa [Ent.m] using hne
      rw [this]
      exact find_born xs hmem hn.2
/-- entry: what the last step came to. -/
theorem entry_run (it : Nat) (seen : List Nat) {e : Ent} (hI : w.heap[it]? = some (iterObj mb clock (seen ++ [e.born]))) (hm : w.heap[mb]? = some (mapObj es clock)) (he : e ∈ es) (hn : (es.map Ent.born).Nodup) :
    (Instr.entry (ptr it)).run P w = .ok (.tuple #[.int .i64 e.r.num, ptr e.p]) w := by
  have hf : (es.map Ent.m).toArray.find? (fun x => x.born == e.born) = some e.m := by
    simp only [List.find?_toArray, List.find?_map, Function.comp_def]
    rw [find_born es he hn]; rfl
  have hi := getObj_run (P := P) hI (by simp)
  simp only [Instr.entry, Sem.run_bind, hi, Result.andThen]
  simp [hf, getMap_run hm, Ent.m, Result.andThen]
end
end Go.Proofs.YticobikhndlejaaGreatDoor

/- maps.Values over the table's map, slices.AppendSeq, slices.Collect: by contracts inside a fence. (After the kit's worked texts on ranges over functions.) -/
namespace Go.Proofs.YticobikhndlejaaGreatDoor
open Go.RowKit Go.Shelf

attribute [local go_sem] Oper.semAt_some

/-- how many entries are still to come, read off the world -/
def iterLeft (n it : Nat) (w : World) : Nat :=
  match w.heap[it]? with
  | some (.mapIter _ _ seen _) => n - seen.size
  | _ => 0
theorem iterLeft_eq {n it mb clock : Nat} {seen : List Nat} {w : World} (h : w.heap[it]? = some (iterObj mb clock seen)) : iterLeft n it w = n - seen.length := by
  simp [iterLeft, h]
theorem nodup_of_born {es : List Ent} (h : (es.map Ent.born).Nodup) : es.Nodup := (List.pairwise_map.1 h).imp fun hne heq => hne (by rw [heq])
theorem left_perm {es vs : List Ent} (hv : ∀ v ∈ vs, v ∈ es) (hnd : (es.map Ent.born).Nodup) (hvn : (vs.map Ent.born).Nodup) (hl : leftOf es (vs.map Ent.born) = []) : vs.Perm es := by
  have hes : es.Nodup := nodup_of_born hnd
  have hvs : vs.Nodup := nodup_of_born hvn
  refine (List.perm_ext_iff_of_nodup hvs hes).2 fun a => ⟨hv a, fun ha => ?_⟩
  by_cases hc : a.born ∈ vs.map Ent.born
  · obtain ⟨b, hb, hbe⟩ := List.mem_map.1 hc
    have : b = a := by
      have h1 := find_born es (hv b hb) hnd
      have h2 := find_born es ha hnd
      rw [hbe] at h1
      rw [h1] at h2
      exact Option.some.inj h2
    exact this ▸ hb
  · exfalso
    have : a ∈ leftOf es (vs.map Ent.born) := List.mem_filter.2 ⟨ha, by simpa using hc⟩
    rw [hl] at this; cases this
theorem len_lt_of_left {es vs : List Ent} {e : Ent} (hv : ∀ v ∈ vs, v ∈ es) (hvn : (vs.map Ent.born).Nodup) (he : e ∈ leftOf es (vs.map Ent.born)) : vs.length < es.length := by
  have hmem := (List.mem_filter.1 he).1
  have hnb : e.born ∉ vs.map Ent.born := by simpa using (List.mem_filter.1 he).2
  have hvs : vs.Nodup := nodup_of_born hvn
  have hne : e ∉ vs := fun h => hnb (List.mem_map_of_mem h)
  have : (e :: vs).length ≤ es.length := List.Nodup.length_le_of_subset (List.nodup_cons.2 ⟨hne, hvs⟩) (fun x hx => by cases hx with | head => exact hmem | tail _ h => exact hv x h)
  simp at this
  omega

set_option maxRecDepth 100000 in
set_option maxHeartbeats 1000000 in
/-- maps.Values's iterator over the table's map: every entry comes once, in some order. -/
theorem values1_in (F : Fence) (n : Nat) (hf : F.fn 120) (hro : F.round = none) (hn : 1 ≤ n) (l Bm mb clock : Nat) (es : List Ent) (J Jx : List Ent → World → Prop)
    (hY : ∀ pre x W, J pre W → pre.length < es.length → YieldAt F (n - 1) Tryz.prog l #[ptr x.p] W fun e W' =>
      (e = .returned (.bool true) ∧ J (pre ++ [x]) W' ∧ KeepsWalks W W') ∨ (e = .returned (.bool false) ∧ Jx (pre ++ [x]) W'))
    (W : World) (hJ : AbidesFrom W.heap.size J) (hm : W.cell? ⟨Bm, 0, none⟩ = some (.map (some mb))) (hmap : W.heap[mb]? = some (mapObj es clock)) (hb : ∀ e ∈ es, e.born < clock) (hnd : (es.map Ent.born).Nodup) (h0 : J [] W) :
    CallsIn F n Tryz.prog 120 #[.func (.yield l) #[] #[], ptr Bm] W fun e W' => (∃ v, e = .returned v) ∧
      ((∃ xs, xs.Perm es ∧ J xs W') ∨ (∃ pre, True ∧ Jx pre W')) := by
  have hml := lt_of_heap hmap
  have hrg := run_range_map (P := Tryz.prog) (w := W) Tryz.underlying146 hmap
  refine callsIn_of_wp Tryz.func120 rfl hf ?_ hro
  simp only [Tryz.ntmps120, List.size_toArray, List.length_cons, List.length_nil, Nat.reduceAdd, Nat.reduceSub, Array.replicate_succ, Array.replicate_zero, List.push_toArray, List.append_toArray, List.nil_append, List.cons_append]
  gi_wp2
  gi_loopw [4] (fun _ wr => ∃ vs : List Ent, wr.heap[W.heap.size]? = some (iterObj mb clock (vs.map Ent.born)) ∧ wr.heap[mb]? = some (mapObj es clock) ∧ (∀ v ∈ vs, v ∈ es) ∧ (vs.map Ent.born).Nodup ∧ J vs wr)
    (fun _ wr => iterLeft es.length W.heap.size wr)
  case atStart =>
    refine ⟨[], World.alloc_heap_new W _, (Below.heap_alloc _ _ _ hml).trans hmap, by simp, by simp, ?_⟩
    exact hJ [] W _ none h0 (World.grownBy_alloc W _ none) (fun r e => by cases e)
  case round =>
    obtain ⟨vs, hI, hM, hve, hvn, hJs⟩ := hrel
    by_cases hl : leftOf es (vs.map Ent.born) = []
    · have hnx := fun ty => next_over (P := Tryz.prog) ty _ _ hI hM hb hl
      have hp := left_perm hve hnd hvn hl
      gi_wp2
      go_end0
      exact ⟨⟨_, rfl⟩, .inl ⟨vs, hp, hJs⟩⟩
    · obtain ⟨e, he, w2, hnx, hw2⟩ := next_some (P := Tryz.prog) 0 _ _ hI hM hb hl
      have hlt := len_lt_of_left hve hvn he
      have hee := (List.mem_filter.1 he).1
      have hnb : e.born ∉ vs.map Ent.born := by simpa using (List.mem_filter.1 he).2
      have hml2 := lt_of_heap hM
      have hil := lt_of_heap hI
      have hI2 : w2.heap[W.heap.size]? = some (iterObj mb clock ((vs ++ [e]).map Ent.born)) := by
        rcases hw2 with rfl | rfl
        · rw [World.putObj_heap_same hil]; simp
        · rw [World.putObj_heap_same (by simpa using hil)]; simp
      have hM2 : w2.heap[mb]? = some (mapObj es clock) := by
        rcases hw2 with rfl | rfl <;> rw [World.putObj_heap_other (by omega)]
        · exact hM
        · exact hM
      have hg2 : wr.grownBy w2 (some W.heap.size) := by
        rcases hw2 with rfl | rfl
        · exact grownBy_putObj' _ _ _
        · exact ⟨rfl, rfl, rfl, by simp, fun k _ hk => World.putObj_heap_other (fun e => hk (by rw [e]))⟩
      have hJ2 : J vs w2 := hJ vs wr w2 (some W.heap.size) hJs hg2 (fun r e => by cases e; exact ⟨Nat.le_refl _, _, hI, rfl⟩)
      have hen := entry_run (P := Tryz.prog) (w := w2) _ _ (by simpa using hI2) hM2 hee hnd
      obtain ⟨fn, tmps, assign, body, hy, hR⟩ := hY vs e w2 hJ2 hlt
      clear hw2
      have HI2 := Lib.hid hI2
      have HM2 := Lib.hid hM2
      have HI := Lib.hid hI
      clear hI2 hM2 hI hM hmap hrg
      gi_wp2
      refine hR.mono ?_
      have hve' : ∀ v ∈ vs ++ [e], v ∈ es := fun v hv => (List.mem_append.1 hv).elim (hve v) (fun h => by simp at h; subst h; exact hee)
      have hvn' : ((vs ++ [e]).map Ent.born).Nodup := by
        rw [List.map_append]
        exact List.nodup_append.2 ⟨hvn, by simp, fun a ha b hb hab => by simp at hb; subst hb; exact hnb (hab ▸ ha)⟩
      rintro e' W3 (⟨rfl, hJ3, hk3⟩ | ⟨rfl, hJx3⟩)
      · gi_wp2
        have hI3 := hk3.same _ _ HI2.out rfl
        go_roundw
        case rel => exact ⟨vs ++ [e], hI3, hk3.same _ _ HM2.out rfl, hve', hvn', hJ3⟩
        case measure => rw [iterLeft_eq hI3, iterLeft_eq HI.out]; simp; omega
      · gi_wp2
        refine bodyPost_ret (results_none rfl _ _ _) rfl ?_
        exact ⟨⟨_, rfl⟩, .inr ⟨vs ++ [e], trivial, hJx3⟩⟩

/-- maps.Values(m): the map is boxed; the function value captures the box. -/
theorem values_in (F : Fence) (n : Nat) (hf : F.fn 103) (hro : F.round = none) (m : Option Nat) (w : World) :
    CallsIn F n Tryz.prog 103 #[.map m] w fun e w' => e = .returned (.func (.func 120) #[] #[ptr w.heap.size]) ∧ w' = w.alloc (.cells #[.map m] 146) := by
  refine callsIn_of_wp Tryz.func103 rfl hf ?_ hro
  simp only [Tryz.ntmps103, List.size_toArray, List.length_cons, List.length_nil, Nat.reduceAdd, Nat.reduceSub, Array.replicate_succ, Array.replicate_zero, List.push_toArray, List.append_toArray, List.nil_append, List.cons_append]
  gi_wp2
  go_ret
  exact ⟨rfl, rfl⟩
theorem values_stops (F : Fence) (n : Nat) (hf : F.fn 120) (hro : F.round = none) (hn : 1 ≤ n) (Bm mb clock : Nat) (es : List Ent) (w : World) (hBm : Bm < w.heap.size)
    (hm : w.cell? ⟨Bm, 0, none⟩ = some (.map (some mb))) (hmap : w.heap[mb]? = some (mapObj es clock)) (hb : ∀ e ∈ es, e.born < clock) (hnd : (es.map Ent.born).Nodup) :
    SeqStopsK F n Tryz.prog 120 #[ptr Bm] (fun e : Ent => #[ptr e.p]) KeepsWalks (fun xs => xs.Perm es) (fun _ => True) es.length w := fun l J Jx W hW hJ _ hY h0 =>
  values1_in F n hf hro hn l Bm mb clock es J Jx hY W hJ ((hW.cell (p := ⟨Bm, 0, none⟩) hBm).trans hm) ((hW.block mb (lt_of_heap hmap)).trans hmap) hb hnd h0

theorem Tryz.infoP : (Tryz.prog.info? 97).map (fun i => (i.zero, i.size, i.bytes)) = some (some (.pointer none), 1, 8) := by kernel_rfl

set_option maxRecDepth 100000 in
set_option maxHeartbeats 2000000 in
/-- slices.AppendSeq(nil, seq): a slice of the call's own that holds what came. -/
theorem appendSeq_in (F : Fence) (n : Nat) (hf : F.fn 129) (hg : F.fn 120) (hro : F.round = none) (hn : 3 ≤ n) (Bm : Nat) (S : List Ent → Prop) (N : Nat) (hN : N ≤ 1000000)
    (w : World) (hs : SeqStopsK F (n - 1) Tryz.prog 120 #[ptr Bm] (fun e : Ent => #[ptr e.p]) KeepsWalks S (fun _ => True) N w) :
    CallsIn F n Tryz.prog 129 #[.slice none 0 0, .func (.func 120) #[] #[ptr Bm]] w fun e W' =>
      ∃ v vs, e = .returned v ∧ S vs ∧ W'.ownsRow w.heap.size 97 1 v vs.length (vs.map fun e => ptr e.p) ∧ Below w.heap.size w W' := by
  have h1 : 1 ≤ n := by omega
  obtain ⟨i0, hi, hz0, hz1, hz2⟩ := info_parts Tryz.infoP
  refine callsIn_of_wp_marks Tryz.func129 rfl hf ?_ hro
  simp only [Tryz.ntmps129, List.size_toArray, List.length_cons, List.length_nil, Nat.reduceAdd, Nat.reduceSub, Array.replicate_succ, Array.replicate_zero, List.push_toArray, List.append_toArray, List.nil_append, List.cons_append]
  have HS := Lib.hid hs
  clear hs
  gi_wp2
  have bO := Boxed.new w 90 (.slice none 0 0)
  have hB0 : Below w.heap.size w (w.alloc (.cells #[.slice none 0 0] 90)) := (Below.refl _ w).alloc (Nat.le_refl _) _
  refine wpIn_rangeFunc_ownG hro h1 (gf := 120) (lb := #[ptr Bm]) rfl hg (enters_of Tryz.func120 (by kernel_rfl) rfl)
    (fun l J Jx W' hW hJ hJx hY h0 => HS.out l J Jx W' (hB0.trans (hW.mono hB0.size)) hJ hJx hY h0) walksK_t walksK_b (Below.refl _ _) (fun _ => rfl)
    (fun (pre : List Ent) W => (∃ v, Boxed W w.heap.size 90 v ∧ W.ownsRow w.heap.size 97 1 v pre.length (pre.map fun e : Ent => ptr e.p) ∧ True) ∧ Below w.heap.size w W)
    (fun _ _ _ => False)
    (OwnFrom.and (Own.from (holdsRow_own w.heap.size w.heap.size 90 97 1 (fun pre : List Ent => pre.length) (fun pre : List Ent => pre.map fun e => ptr e.p) (fun (_ : List Ent) _ => True)) _) (ownFrom_below (Nat.le_refl _) (by simp)))
    (fun _ _ _ _ _ hs _ _ => hs)
    ⟨⟨_, bO, World.ownsRow_nil _ _ _ _, trivial⟩, hB0⟩
    (fun x : Ent => { tmps := #[.slice none 0 0, .func (.func 120) #[] #[ptr Bm], ptr w.heap.size, undef, .slice none 0 0, ptr x.p, .func (.func 120) #[] #[ptr Bm], ptr x.p, undef, undef, undef, undef, undef], defers := [] }) ?assign ?body ?done ?stop
  case assign =>
    intro l x W K hK
    gi_wp2
    exact hK
  case body =>
    rintro l pre x W ⟨⟨v, hv, hrow, _⟩, hB⟩ hlt
    have hc := hv.cell
    gi_wp2_with (gi_at_builtin; refine wpListIn_append_own _ rfl _ _ 90 rfl w.heap.size 97 i0 (.pointer none) 1 8 Tryz.underlying90 hi hz0 hz1 hz2 rfl (by decide) _ _ _ rfl (hrow.alloc _) ⟨W.heap.size, 0, none⟩ 1 1 [ptr x.p] rfl rfl (cell_one_new _ _ _) (by simp [Value.oneCell']) (by unfold maxLen; omega) (by omega) (by have := hB.size; simp; omega) ?_; intro v' w1 hown' hgrow _; obtain ⟨g', cap', rfl⟩ := ownsRow_succ hown'; obtain ⟨hv1, hv2, hr2, hk2, hb2⟩ := hv.appended (by decide) hrow hB.size (Nat.le_refl _) hown' hgrow; have hc1 := hv1.cell; have hf1 := hv1.frozen)
    exact ⟨hk2.from _, hk2.walks, ⟨_, hv2, by simpa using hr2, trivial⟩, hB.trans hb2⟩
  case done =>
    rintro D ys W hD hS ⟨⟨v, hv, hrow, _⟩, hB⟩ hK
    have hc := hv.cell
    gi_wp2
    refine ⟨by simp, .inl ⟨_, _, rfl, run_takeDeferred hK, ?_⟩⟩
    exact ⟨_, results_tmp rfl _ _ _, v, ys, rfl, hS, ownsRow_putObj hrow _ hK rfl, hB.trans (belowK_b (w := w) (Nat.le_refl _) W D _ _ (by simp at hD; omega) hK rfl rfl)⟩
  case stop =>
    rintro D c pre W _ _ h _
    exact h.elim

set_option maxRecDepth 100000 in
/-- slices.Collect(seq). -/
theorem collect_in (F : Fence) (n : Nat) (hf : F.fn 118) (hf2 : F.fn 129) (hg : F.fn 120) (hro : F.round = none) (hn : 4 ≤ n) (Bm : Nat) (S : List Ent → Prop) (N : Nat) (hN : N ≤ 1000000)
    (w : World) (hs : SeqStopsK F (n - 1 - 1) Tryz.prog 120 #[ptr Bm] (fun e : Ent => #[ptr e.p]) KeepsWalks S (fun _ => True) N w) :
    CallsIn F n Tryz.prog 118 #[.func (.func 120) #[] #[ptr Bm]] w fun e W' =>
      ∃ v vs, e = .returned v ∧ S vs ∧ W'.ownsRow w.heap.size 97 1 v vs.length (vs.map fun e => ptr e.p) ∧ Below w.heap.size w W' := by
  have h1 : 1 ≤ n := by omega
  refine callsIn_of_wp Tryz.func118 rfl hf ?_ hro
  simp only [Tryz.ntmps118, List.size_toArray, List.length_cons, List.length_nil, Nat.reduceAdd, Nat.reduceSub, Array.replicate_succ, Array.replicate_zero, List.push_toArray, List.append_toArray, List.nil_append, List.cons_append]
  have HS := Lib.hid hs
  clear hs
  gi_wp2_with (gi_at_call 129; refine (appendSeq_in F (n - 1) hf2 hg hro (by omega) Bm S N hN _ HS.out).mono ?_; rintro e w' ⟨v, vs, rfl, hS, hrow, hb⟩)
  go_ret
  exact ⟨v, vs, rfl, hS, hrow, hb⟩
/-- The same, without a fence, at maps.Values of the table's map. -/
theorem collect_any (Bm mb clock : Nat) (es : List Ent) (w : World) (hlen : es.length ≤ 1000000) (hm : w.cell? ⟨Bm, 0, none⟩ = some (.map (some mb))) (hmap : w.heap[mb]? = some (mapObj es clock)) (hb : ∀ e ∈ es, e.born < clock) (hnd : (es.map Ent.born).Nodup) :
    Calls Tryz.prog 118 #[.func (.func 120) #[] #[ptr Bm]] w fun e W' =>
      ∃ (v : Value) (vs : List Ent), e = .returned v ∧ vs.Perm es ∧ W'.ownsRow w.heap.size 97 1 v vs.length (vs.map fun e => ptr e.p) ∧ Below w.heap.size w W' :=
  (callsIn_wide (n := 6)).1 (collect_in Fence.wide 6 trivial trivial trivial rfl (by omega) Bm _ es.length hlen w
    (values_stops Fence.wide (6 - 1 - 1) trivial rfl (by omega) Bm mb clock es w (lt_of_cell hm) hm hmap hb hnd))
end Go.Proofs.YticobikhndlejaaGreatDoor

/- The requests' own methods: blocks, Compare, Fail. -/
namespace Go.Proofs.YticobikhndlejaaGreatDoor
open Go.RowKit

/-- A request's block, cell by cell. -/
structure ReqAt (w : World) (p : Nat) (r : Req) : Prop where
  c0 : w.cell? ⟨p, 0, none⟩ = some (.int .i64 r.num)
  c1 : w.cell? ⟨p, 1, none⟩ = some (.bool r.write)
  c2 : w.cell? ⟨p, 2, none⟩ = some (.int .i64 r.page)
  c3 : w.cell? ⟨p, 3, none⟩ = some (.int .u8 r.data.a)
  c4 : w.cell? ⟨p, 4, none⟩ = some (.int .u8 r.data.b)
  c5 : w.cell? ⟨p, 5, none⟩ = some (.int .u8 r.data.c)
  c6 : w.cell? ⟨p, 6, none⟩ = some (.int .u8 r.data.d)
  c7 : w.cell? ⟨p, 7, none⟩ = some (.int .i64 r.state)
  c8 : w.cell? ⟨p, 8, none⟩ = some (.int .i64 r.tries)
  c9 : w.cell? ⟨p, 9, none⟩ = some (.int .i64 r.after)
  c10 : w.cell? ⟨p, 10, none⟩ = some (.bool r.alone)
  c11 : w.cell? ⟨p, 11, none⟩ = some (.bool r.inAir)
  c12 : w.cell? ⟨p, 12, none⟩ = some (.bool r.told)
abbrev ReqB (w : World) (p : Nat) (r : Req) : Prop := w.heap[p]? = some (.cells (reqCells r) 96 (0, 0))
theorem ReqB.at {w : World} {p : Nat} {r : Req} (h : ReqB w p r) : ReqAt w p r := by
  constructor <;> exact cell_of h rfl

set_option maxRecDepth 100000 in
set_option maxHeartbeats 1000000 in
theorem blocks_any (a b : Nat) (o r : Req) (w : World) (ha : ReqB w a o) (hb : ReqB w b r) :
    Calls Tryz.prog 69 #[.pointer (some ⟨a, 0, none⟩), .pointer (some ⟨b, 0, none⟩)] w fun e w' => e = .returned (.bool (o.blocks r)) ∧ ∃ n, w' = w.drewN n := by
  obtain ⟨a0, a1, a2, _, _, _, _, a7, _, _, _, a11, _⟩ := ha.at
  obtain ⟨b0, b1, b2, _, _, _, _, _, _, _, _, _, _⟩ := hb.at
  clear ha hb
  obtain ⟨num, write, page, data, state, tries, after, alone, inAir, told⟩ := o
  obtain ⟨num', write', page', data', state', tries', after', alone', inAir', told'⟩ := r
  simp only at *
  by_cases h1 : num < num'
  · have d1 : decide (num < num') = true := by simpa using h1
    by_cases h2 : page = page'
    · have d2 : (page == page') = true := by simpa using h2
      by_cases h3 : state = 0
      · have d3 : (state == 0) = true := by simpa using h3
        clear h3
        cases write <;> cases write' <;>
        (go_enter Tryz.func69, Tryz.ntmps69; go_wp2; go_quiet (fail); go_wp2; go_ret; exact ⟨by simp [Req.blocks, d3, h1, h2], _, rfl⟩)
      · have d3 : (state == 0) = false := by simpa using h3
        clear h3
        cases write <;> cases write' <;> cases inAir <;>
        (go_enter Tryz.func69, Tryz.ntmps69; go_wp2; go_quiet (fail); go_wp2; go_ret; exact ⟨by simp [Req.blocks, d3, h1, h2], _, rfl⟩)
    · have d2 : (page == page') = false := by simpa using h2
      (go_enter Tryz.func69, Tryz.ntmps69; go_wp2; go_quiet (fail); go_wp2; go_ret; exact ⟨by simp [Req.blocks, d2, h1], _, rfl⟩)
  · have d1 : decide (num < num') = false := by simpa using h1
    (go_enter Tryz.func69, Tryz.ntmps69; go_wp2; go_quiet (fail); go_wp2; go_ret; exact ⟨by simp [Req.blocks, d1], _, rfl⟩)

set_option maxRecDepth 100000 in
theorem compare_any (a b : Nat) (o r : Req) (w : World) (ha : ReqB w a o) (hb : ReqB w b r) (h1 : 0 ≤ o.page ∧ o.page < 16) (h2 : 0 ≤ r.page ∧ r.page < 16) (h3 : 0 ≤ o.num ∧ o.num ≤ 2 ^ 60) (h4 : 0 ≤ r.num ∧ r.num ≤ 2 ^ 60) :
    Calls Tryz.prog 104 #[.pointer (some ⟨a, 0, none⟩), .pointer (some ⟨b, 0, none⟩)] w fun e w' => e = .returned (.int .i64 (o.cmp r)) ∧ ∃ n, w' = w.drewN n := by
  obtain ⟨a0, a1, a2, _, _, _, _, a7, _, _, _, a11, _⟩ := ha.at
  obtain ⟨b0, b1, b2, _, _, _, _, _, _, _, _, _, _⟩ := hb.at
  clear ha hb
  obtain ⟨num, write, page, data, state, tries, after, alone, inAir, told⟩ := o
  obtain ⟨num', write', page', data', state', tries', after', alone', inAir', told'⟩ := r
  simp only at *
  have e1 := h3.1; have e2 := h4.1; have e3 := h3.2; have e4 := h4.2; have e5 := h1.1; have e6 := h1.2; have e7 := h2.1; have e8 := h2.2
  clear h1 h2 h3 h4
  by_cases h : page = page'
  · have d2 : (page != page') = false := by simpa using h
    go_enter Tryz.func104, Tryz.ntmps104
    go_wp2
    go_quiet (fail)
    go_wp2
    go_quiet (fail)
    go_wp2
    go_ret
    exact ⟨by simp [Req.cmp, h], _, World.drewN_drewN ..⟩
  · have d2 : (page != page') = true := by simpa using h
    go_enter Tryz.func104, Tryz.ntmps104
    go_wp2
    go_quiet (fail)
    go_wp2
    go_quiet (fail)
    go_wp2
    go_ret
    exact ⟨by simp [Req.cmp, h], _, World.drewN_drewN ..⟩
end Go.Proofs.YticobikhndlejaaGreatDoor
