/- THE TABLE'S MAP: what look-up, store, delete, range, next, entry do on a block '.map entries clock' whose keys are numbers and whose values are pointers. -/
import Derived.Test.YticobikhndlejaaDoorModel
import Derived.MapKept
import Derived.RangeFuncSeq
import Derived.Laws.NewFold
namespace Go.Proofs.YticobikhndlejaaDoor
open Go.RowKit

abbrev ptr (p : Nat) : Value := .pointer (some ⟨p, 0, none⟩)
def Ent.m (e : Ent) : MapEntry := { key := .int .i64 e.r.num, val := ptr e.p, born := e.born }
/-- the map's block -/
abbrev mapObj (es : List Ent) (clock : Nat) : Obj := .map (es.map Ent.m).toArray clock

theorem findNow_no (k : Int) : ∀ (es : List Ent) (i : Nat), (∀ e ∈ es, e.r.num ≠ k) → Instr.findNow (.int .i64) (.int .i64 k) (es.map Ent.m) i = some none
  | [], _, _ => rfl
  | e :: es, i, h => by
    have h1 : (k == e.r.num) = false := by simpa using fun hh => h e (by simp) hh.symm
    simp only [List.map_cons, Instr.findNow, Ent.m, Instr.sameNow, if_true, h1]
    exact findNow_no k es (i + 1) fun x hx => h x (by simp [hx])
theorem findNow_yes (k : Int) (e : Ent) (l2 : List Ent) (he : e.r.num = k) : ∀ (l1 : List Ent) (i : Nat), (∀ x ∈ l1, x.r.num ≠ k) →
    Instr.findNow (.int .i64) (.int .i64 k) ((l1 ++ e :: l2).map Ent.m) i = some (some (i + l1.length, ptr e.p))
  | [], i, _ => by simp [Instr.findNow, Ent.m, Instr.sameNow, he]
  | x :: l1, i, h => by
    have h1 : (k == x.r.num) = false := by simpa using fun hh => h x (by simp) hh.symm
    simp only [List.cons_append, List.map_cons, Instr.findNow, Ent.m, Instr.sameNow, if_true, h1]
    have := findNow_yes k e l2 he l1 (i + 1) fun y hy => h y (by simp [hy])
    rw [this]; simp; omega

section
variable {P : Program} {T K E : TypeId} {w : World} {mb clock : Nat} {es : List Ent}
theorem run_checkKey_int (hK : P.underlying K = some (.int .i64)) (b : Bool) (k : Int) (w : World) : (Instr.checkKey b 10000 K (.int .i64 k)).run P w = .ok () w := by
  unfold Instr.checkKey
  simp [run_underlying hK]
theorem getObj_run {w : World} {r : Nat} {o : Obj} (h : w.heap[r]? = some o) (hn : ∀ c t f, o ≠ .cells c t f) : (getObj r).run P w = .ok o w := by
  cases o <;> first | exact absurd rfl (hn _ _ _) | simp [getObj, Sem.run, h]
theorem setObj_run {w : World} {r : Nat} {o : Obj} (o' : Obj) (h : w.heap[r]? = some o) (hn : ∀ c t f, o ≠ .cells c t f) : (setObj r o').run P w = .ok () (w.putObj r o') := by
  cases o <;> first | exact absurd rfl (hn _ _ _) | simp [setObj, Sem.run, h, World.putObj]
theorem getMap_run {w : World} {es : List Ent} (h : w.heap[mb]? = some (mapObj es clock)) : (getObj mb).run P w = .ok (mapObj es clock) w := getObj_run h (by simp)
theorem setMap_run {w : World} {es : List Ent} (o : Obj) (h : w.heap[mb]? = some (mapObj es clock)) : (setObj mb o).run P w = .ok () (w.putObj mb o) := setObj_run o h (by simp)
theorem run_findKey {w : World} (hK : P.underlying K = some (.int .i64)) (k : Int) (l : List MapEntry) (r : Option (Nat × Value)) (h : Instr.findNow (.int .i64) (.int .i64 k) l 0 = some r) :
    (Instr.findKey K (.int .i64 k) l).run P w = .ok r w := by
  simp [Instr.findKey, run_underlying hK, h, Result.andThen]
theorem run_lookup_no (hT : P.underlying T = some (.map K E)) (hK : P.underlying K = some (.int .i64)) (hz : ∀ w, (zeroValue E).run P w = .ok (.pointer none) w) (hm : w.heap[mb]? = some (mapObj es clock)) (k : Int) (h : ∀ e ∈ es, e.r.num ≠ k) :
    (Instr.lookup T (.map (some mb)) (.int .i64 k) true).run P w = .ok (.tuple #[.pointer none, .bool false]) w ∧ (Instr.lookup T (.map (some mb)) (.int .i64 k) false).run P w = .ok (.pointer none) w := by
  constructor <;> simp [Instr.lookup, run_underlying hT, getMap_run hm, run_checkKey_int hK, run_findKey hK k _ _ (findNow_no k es 0 h), hz, Result.andThen]
theorem run_lookup_yes {l1 l2 : List Ent} {e : Ent} (hT : P.underlying T = some (.map K E)) (hK : P.underlying K = some (.int .i64)) (hm : w.heap[mb]? = some (mapObj (l1 ++ e :: l2) clock)) (k : Int) (he : e.r.num = k) (h : ∀ x ∈ l1, x.r.num ≠ k) :
    (Instr.lookup T (.map (some mb)) (.int .i64 k) true).run P w = .ok (.tuple #[ptr e.p, .bool true]) w ∧ (Instr.lookup T (.map (some mb)) (.int .i64 k) false).run P w = .ok (ptr e.p) w := by
  have f := run_findKey (P := P) (w := w) hK k _ _ (findNow_yes k e l2 he l1 0 h)
  simp only [List.map_append, List.map_cons] at f
  constructor <;> simp [Instr.lookup, run_underlying hT, getMap_run hm, run_checkKey_int hK, f, Result.andThen]
/-- A store at a key that is not there. -/
theorem run_update_new (hT : P.underlying T = some (.map K E)) (hK : P.underlying K = some (.int .i64)) (hm : w.heap[mb]? = some (mapObj es clock)) (r : Req) (p : Nat) (h : ∀ e ∈ es, e.r.num ≠ r.num) :
    (Instr.mapUpdate T (.map (some mb)) (.int .i64 r.num) (ptr p)).run P w = .ok () (w.putObj mb (mapObj (es ++ [⟨r, p, clock⟩]) (clock + 1))) := by
  simp [Instr.mapUpdate, run_underlying hT, getMap_run hm, run_checkKey_int hK, run_findKey hK r.num _ _ (findNow_no r.num es 0 h), Result.andThen, setMap_run _ hm]
  simp [mapObj, Ent.m]
/-- delete of what is there. -/
theorem run_delete_yes {l1 l2 : List Ent} {e : Ent} {ty : TypeId} (hT : P.underlying T = some (.map K E)) (hK : P.underlying K = some (.int .i64)) (hm : w.heap[mb]? = some (mapObj (l1 ++ e :: l2) clock)) (he : ∀ x ∈ l1, x.r.num ≠ e.r.num) :
    (Builtin.delete_ #[T, K] ty #[.map (some mb), .int .i64 e.r.num]).run P w = .ok (.tuple #[]) (w.putObj mb (mapObj (l1 ++ l2) clock)) := by
  have f := run_findKey (P := P) (w := w) hK e.r.num _ _ (findNow_yes e.r.num e l2 rfl l1 0 he)
  simp only [List.map_append, List.map_cons] at f
  have hl : ((l1 ++ e :: l2).map Ent.m).toArray.eraseIdxIfInBounds l1.length = ((l1 ++ l2).map Ent.m).toArray := by
    simp [Array.eraseIdxIfInBounds, List.eraseIdx_append_of_length_le]
  simp only [Builtin.delete_]
  simp [run_underlying hT, getMap_run hm, run_checkKey_int hK, f, Result.andThen, setMap_run _ hm]
  simp at hl
  rw [hl]
  simp [mapObj]
theorem choose_next {w : World} {n : Nat} (h : 0 < n) : ∃ k, k < n ∧ ((choose (.mapNext n)).run P w = .ok k w ∨ (choose (.mapNext n)).run P w = .ok k w.drew) := by
  by_cases h1 : n ≤ 1
  · exact ⟨0, h, .inl (by simp [Question.forced, h1])⟩
  · exact ⟨_, Nat.mod_lt _ h, .inr (by simp [Question.forced, h1, Question.cut]; rfl)⟩
/-- range: a new iterator. -/
theorem run_range_map (hT : P.underlying T = some (.map K E)) (hm : w.heap[mb]? = some (mapObj es clock)) :
    (Instr.range T (.map (some mb))).run P w = .ok (ptr w.heap.size) (w.alloc (.mapIter (some mb) clock #[] clock)) := by
  simp [Instr.range, run_underlying hT, getMap_run hm, Result.andThen]
/-- The iterator's block: which entries have come ('seen': when they were laid). -/
abbrev iterObj (mb clock : Nat) (seen : List Nat) : Obj := .mapIter (some mb) clock seen.toArray clock
/-- What is left of the entries. -/
def leftOf (es : List Ent) (seen : List Nat) : List Ent := es.filter fun e => !seen.contains e.born
theorem filter_m (f : MapEntry → Bool) (es : List Ent) : ((es.map Ent.m).toArray.filter f) = ((es.filter fun e => f e.m).map Ent.m).toArray := by
  simp [List.filter_map, Function.comp_def]
theorem next_over (ty : TypeId) (it : Nat) (seen : List Nat) (hI : w.heap[it]? = some (iterObj mb clock seen)) (hm : w.heap[mb]? = some (mapObj es clock)) (hb : ∀ e ∈ es, e.born < clock) (hl : leftOf es seen = []) :
    (Instr.next (ptr it) false ty).run P w = .ok (.tuple #[.bool false]) w := by
  have h1 : (!seen.toArray.isEmpty && !(es.map Ent.m).toArray.isEmpty && (es.map Ent.m).toArray.all fun x => decide (x.born ≥ clock)) = false := by
    cases es with
    | nil => simp
    | cons e es => have := hb e (by simp); simp [Ent.m]; omega
  have h2 : ((es.map Ent.m).toArray.filter fun e => !seen.toArray.contains e.born) = #[] := by
    rw [filter_m]
    have : (es.filter fun e => !seen.toArray.contains e.m.born) = leftOf es seen := by simp [leftOf, Ent.m]
    rw [this, hl]; rfl
  have hi := getObj_run (P := P) hI (by simp)
  simp only [Instr.next, Sem.run_bind, hi, getMap_run hm, Result.andThen]
  simp only [h1, h2]
  simp [Question.forced]
theorem next_some (ty : TypeId) (it : Nat) (seen : List Nat) (hI : w.heap[it]? = some (iterObj mb clock seen)) (hm : w.heap[mb]? = some (mapObj es clock)) (hb : ∀ e ∈ es, e.born < clock) (hl : leftOf es seen ≠ []) :
    ∃ e ∈ leftOf es seen, ∃ w', (Instr.next (ptr it) false ty).run P w = .ok (.tuple #[.bool true, .int .i64 e.r.num, ptr e.p]) w' ∧ (w' = w.putObj it (iterObj mb clock (seen ++ [e.born])) ∨ w' = w.drew.putObj it (iterObj mb clock (seen ++ [e.born]))) := by
  have h1 : (!seen.toArray.isEmpty && !(es.map Ent.m).toArray.isEmpty && (es.map Ent.m).toArray.all fun x => decide (x.born ≥ clock)) = false := by
    cases es with
    | nil => simp
    | cons e es => have := hb e (by simp); simp [Ent.m]; omega
  have h2 : ((es.map Ent.m).toArray.filter fun e => !seen.toArray.contains e.born) = ((leftOf es seen).map Ent.m).toArray := by
    rw [filter_m]
    have : (es.filter fun e => !seen.toArray.contains e.m.born) = leftOf es seen := by simp [leftOf, Ent.m]
    rw [this]
  have h3 : (((leftOf es seen).map Ent.m).toArray.filter fun x => decide (x.born < clock)) = ((leftOf es seen).map Ent.m).toArray := by
    rw [filter_m]
    congr 2
    refine List.filter_eq_self.2 fun e he => ?_
    exact decide_eq_true (hb e (List.mem_filter.1 he).1)
  have h4 : (((leftOf es seen).map Ent.m).toArray.filter fun x => decide (x.born ≥ clock)) = #[] := by
    rw [filter_m]
    have : ((leftOf es seen).filter fun e => decide (e.m.born ≥ clock)) = [] := by
      refine List.filter_eq_nil_iff.2 fun e he => ?_
      have := hb e (List.mem_filter.1 he).1
      simp [Ent.m]; omega
    rw [this]; rfl
  have hi := getObj_run (P := P) hI (by simp)
  have hi2 := fun o' => setObj_run (P := P) o' hI (by simp)
  have hI3 : w.drew.heap[it]? = some (iterObj mb clock seen) := hI
  have hi3 := fun o' => setObj_run (P := P) o' hI3 (by simp)
  simp only [Instr.next, Sem.run_bind, hi, getMap_run hm, Result.andThen]
  simp only [h1, h2, h3, h4]
  generalize leftOf es seen = L at *
  clear h1 h2 h3 h4 hi hb
  have hC : ((if (L.map Ent.m).toArray.isEmpty = true then #[none] else #[]) ++ Array.map some ((L.map Ent.m).toArray ++ #[])) = (L.map fun e => some e.m).toArray := by
    cases L with
    | nil => exact absurd rfl hl
    | cons e L => simp [Function.comp_def]
  simp only [hC]
  obtain ⟨k, hk, hch⟩ := choose_next (P := P) (w := w) (n := L.length) (by cases L with | nil => exact absurd rfl hl | cons => simp)
  have hget : (L.map fun e => some e.m).toArray[k]? = some (some (L[k]'hk).m) := by simp [hk]
  refine ⟨L[k], List.getElem_mem hk, ?_⟩
  rcases hch with hch | hch
  · refine ⟨_, ?_, .inl rfl⟩
    simp only [List.size_toArray, List.length_map, Bool.false_eq_true, if_false, Sem.run_bind, hch, Result.andThen, hget]
    simp [hi2, Ent.m]
  · refine ⟨_, ?_, .inr rfl⟩
    simp only [List.size_toArray, List.length_map, Bool.false_eq_true, if_false, Sem.run_bind, hch, Result.andThen, hget]
    simp [hi3, Ent.m]
theorem find_born : ∀ (es : List Ent) {e : Ent}, e ∈ es → (es.map Ent.born).Nodup → es.find? (fun x => x.m.born == e.born) = some e
  | [], _, he, _ => by cases he
  | x :: xs, e, he, hn => by
    simp only [List.map_cons, List.nodup_cons] at hn
    by_cases hx : x = e
    · subst hx; simp [Ent.m]
    · have hmem : e ∈ xs := by cases he with | head => exact absurd rfl hx | tail _ h => exact h
      have hne : x.born ≠ e.born := fun hh => hn.1 (hh ▸ List.mem_map_of_mem hmem)
      simp only [List.find?_cons]
      have : (x.m.born == e.born) = false := by simpa [Ent.m] using hne
      rw [this]
      exact find_born xs hmem hn.2
/-- entry: what the last step came to. -/
theorem entry_run (it : Nat) (seen : List Nat) {e : Ent} (hI : w.heap[it]? = some (iterObj mb clock (seen ++ [e.born]))) (hm : w.heap[mb]? = some (mapObj es clock)) (he : e ∈ es) (hn : (es.map Ent.born).Nodup) :
    (Instr.entry (ptr it)).run P w = .ok (.tuple #[.int .i64 e.r.num, ptr e.p]) w := by
  have hf : (es.map Ent.m).toArray.find? (fun x => x.born == e.born) = some e.m := by
    simp only [List.find?_toArray, List.find?_map, Function.comp_def]
    rw [find_born es he hn]; rfl
  have hi := getObj_run (P := P) hI (by simp)
  simp only [Instr.entry, Sem.run_bind, hi, Result.andThen]
  simp [hf, getMap_run hm, Ent.m, Result.andThen]
end
end Go.Proofs.YticobikhndlejaaDoor
