/- Step by contract. -/
import Derived.Test.YticobikhndlejabGreatDoorScH
import Derived.Test.YticobikhndlejabGreatDoorScD
namespace Go.Proofs.YticobikhndlejabGreatDoor
open Go.RowKit Go.Shelf Go.Lib

theorem row_int {w : World} {g n : Nat} {t : TypeId} {ns : List Int} {cur : Array Value} (hgb : w.heap[g]? = some (.cells cur t (0, 0))) (r4 : cur.toList.take (n * 1) = ns.map fun n => Value.int .i64 n) (hn : n = ns.length) (j : Nat) (hj : j < ns.length) :
    w.cell? ⟨g, j, none⟩ = some (.int .i64 (ns[j]'hj)) := by
  simp only [World.cell?, hgb]
  have h1 : (cur.toList.take (n * 1))[j]? = (ns.map fun n => Value.int .i64 n)[j]? := by rw [r4]
  rw [Nat.mul_one, List.getElem?_take_of_lt (by omega), List.getElem?_map, List.getElem?_eq_getElem hj] at h1
  simpa using h1
theorem own_slice {w : World} {base n size : Nat} {t : TypeId} {v : Value} {xs : List Value} (h : w.ownsRow base t size v n xs) : ∃ a c, v = .slice a n c := by
  rcases h.2 with ⟨rfl, rfl⟩ | ⟨g, c, cur, rfl, _⟩
  · exact ⟨_, _, rfl⟩
  · exact ⟨_, _, rfl⟩
theorem QB.foot_lt {w : World} {q tb mb clock : Nat} {fv : Value} {s : Sta} (h : QB w q tb mb clock fv s) {k : Nat} (hk : QFoot q tb mb fv s k) : k < w.heap.size := by
  rcases hk with rfl | rfl | rfl | hk | ⟨e, he, rfl⟩ | ⟨c, hc, hk⟩
  · exact lt_of_heap h.que
  · exact lt_of_heap h.tab.tab
  · exact lt_of_heap h.tab.map
  · obtain ⟨cur, hc⟩ := own_heap h.fl hk
    exact lt_of_heap hc
  · exact lt_of_heap (h.tab.reqs e he)
  · obtain ⟨cur, hc⟩ := own_heap (h.rows c hc) hk
    exact lt_of_heap hc
theorem cloneInts (v : Value) (ns : List Int) (w : World) (h : w.ownsRow 0 3 1 v ns.length (ns.map fun n => Value.int .i64 n)) (hl : ns.length ≤ 1000000) :
    Calls Tryz.prog 83 #[v] w fun e w' => ∃ v', e = .returned v' ∧ w'.ownsRow w.heap.size 3 1 v' ns.length (ns.map fun n => Value.int .i64 n) ∧ Below w.heap.size w w' := by
  rcases h.2 with ⟨rfl, h0⟩ | ⟨g, cap, cur, rfl, _, h3, h4, h5, h6, h7⟩
  · refine (Tryz.slices_Clone_int_nil 0 0 w).mono ?_
    rintro e w' ⟨rfl, rfl⟩
    have : ns = [] := List.length_eq_zero_iff.1 h0
    subst this
    exact ⟨_, rfl, World.ownsRow_nil _ _ _ _, Below.refl _ _⟩
  · refine (Tryz.slices_Clone_int g 0 ns.length cap ns w (Nat.le_refl _) (by omega) fun j hj => ?_).mono ?_
    · rw [Nat.zero_add, row_int h3 h7 rfl j hj]
      simp [List.getD, List.getElem?_eq_getElem hj]
    · rintro e w' ⟨v', rfl, h1, _, h2⟩
      rw [List.take_length] at h1
      exact ⟨v', rfl, h1, h2⟩

set_option maxRecDepth 100000 in
theorem clone_any (b : Bool) (p c : Int) (v : Value) (ns : List Int) (w : World) (h : w.ownsRow 0 3 1 v ns.length (ns.map fun n => Value.int .i64 n)) (hl : ns.length ≤ 1000000) :
    Calls Tryz.prog 61 #[.agg #[.bool b, .int .i64 p, .int .i64 c, v]] w fun e w' => ∃ v', e = .returned (.agg #[.bool b, .int .i64 p, .int .i64 c, v']) ∧ w'.ownsRow w.heap.size 3 1 v' ns.length (ns.map fun n => Value.int .i64 n) ∧ Below w.heap.size w w' := by
  obtain ⟨W1, hW1⟩ : ∃ W1, ((w.alloc (.cells #[.bool b, .int .i64 p, .int .i64 c, v] 84)).alloc (.cells #[.bool false, .int .i64 0, .int .i64 0, .slice none 0 0] 84)) = W1 := ⟨_, rfl⟩
  have hb1 : Below w.heap.size w W1 := by rw [← hW1]; exact ((Below.refl _ _).alloc (Nat.le_refl _) _).alloc (by simp) _
  have hs1 : W1.heap.size = w.heap.size + 2 := by rw [← hW1]; simp
  have hr1 : W1.heap[w.heap.size]? = some (.cells #[.bool b, .int .i64 p, .int .i64 c, v] 84 (0, 0)) := by
    rw [← hW1]; exact (Below.heap_alloc _ _ _ (by simp)).trans (World.alloc_heap_new w _)
  have hr2 : W1.heap[w.heap.size + 1]? = some (.cells #[.bool false, .int .i64 0, .int .i64 0, .slice none 0 0] 84 (0, 0)) := by
    rw [← hW1, show w.heap.size + 1 = (w.alloc (.cells #[.bool b, .int .i64 p, .int .i64 c, v] 84)).heap.size from by simp]; exact World.alloc_heap_new _ _
  have HC := Lib.hid (cloneInts v ns W1 (ownsRow_chg h (chgB hb1 fun _ => False) fun _ _ x => x) hl)
  have HR := Lib.hid hr1
  have HR2 := Lib.hid hr2
  have g3 : W1.cell? ⟨w.heap.size, 3, none⟩ = some v := cell_of hr1 rfl
  clear h hr1 hr2
  go_enter Tryz.func61, Tryz.ntmps61
  go_wp2_with fail
  refine HC.out.mono ?_
  rintro x w2 ⟨v', rfl, hrow, hB⟩
  obtain ⟨va, vc, rfl⟩ := own_slice hrow
  have e1 := (hB.block w.heap.size (by omega)).trans HR.out
  have e2 := (hB.block (w.heap.size + 1) (by omega)).trans HR2.out
  have hsz := hB.size
  have a0 : w2.cell? ⟨w.heap.size, 0, none⟩ = some (.bool b) := cell_of e1 rfl
  have a1 : w2.cell? ⟨w.heap.size, 1, none⟩ = some (.int .i64 p) := cell_of e1 rfl
  have a2 : w2.cell? ⟨w.heap.size, 2, none⟩ = some (.int .i64 c) := cell_of e1 rfl
  have a3 : w2.cell? ⟨w.heap.size, 3, none⟩ = some v := cell_of e1 rfl
  have fr1 : ∀ i, w2.frozen? ⟨w.heap.size, i, none⟩ = false := fun i => free_of e1
  have b0 : w2.cell? ⟨w.heap.size + 1, 0, none⟩ = some (.bool false) := cell_of e2 rfl
  have b1 : w2.cell? ⟨w.heap.size + 1, 1, none⟩ = some (.int .i64 0) := cell_of e2 rfl
  have b2 : w2.cell? ⟨w.heap.size + 1, 2, none⟩ = some (.int .i64 0) := cell_of e2 rfl
  have b3 : w2.cell? ⟨w.heap.size + 1, 3, none⟩ = some (.slice none 0 0) := cell_of e2 rfl
  have fr2 : ∀ i, w2.frozen? ⟨w.heap.size + 1, i, none⟩ = false := fun i => free_of e2
  have HROW := Lib.hid hrow
  have HB := Lib.hid hB
  have H1 := Lib.hid e1
  have H2 := Lib.hid e2
  clear hrow hB e1 e2
  go_wp2_with fail
  obtain ⟨W5, hW5⟩ : ∃ W5, (((((w2.setCell ⟨w.heap.size, 3, none⟩ (.slice va ns.length vc)).setCell ⟨w.heap.size + 1, 0, none⟩ (.bool b)).setCell ⟨w.heap.size + 1, 1, none⟩ (.int .i64 p)).setCell ⟨w.heap.size + 1, 2, none⟩ (.int .i64 c)).setCell ⟨w.heap.size + 1, 3, none⟩ (.slice va ns.length vc)) = W5 := ⟨_, rfl⟩
  have hc5 : Chg (fun k => k = w.heap.size ∨ k = w.heap.size + 1) w2 W5 := by
    rw [← hW5]
    exact ((((((chg_set _).mono fun k _ hk => .inl hk).then ((chg_set _).mono fun k _ hk => .inr hk)).then ((chg_set _).mono fun k _ hk => .inr hk)).then ((chg_set _).mono fun k _ hk => .inr hk)).then ((chg_set _).mono fun k _ hk => .inr hk))
  have e5 : W5.heap[w.heap.size + 1]? = some (.cells #[.bool b, .int .i64 p, .int .i64 c, .slice va ns.length vc] 84 (0, 0)) := by
    rw [← hW5]
    exact heap_setCell (i := 3) _ (heap_setCell (i := 2) _ (heap_setCell (i := 1) _ (heap_setCell (i := 0) _ ((heap_setCell_ne _ (by show w.heap.size + 1 ≠ w.heap.size; omega)).trans H2.out))))
  rw [hW5]
  have z0 : W5.cell? ⟨w.heap.size + 1, 0, none⟩ = some (.bool b) := cell_of e5 rfl
  have z1 : W5.cell? ⟨w.heap.size + 1, 1, none⟩ = some (.int .i64 p) := cell_of e5 rfl
  have z2 : W5.cell? ⟨w.heap.size + 1, 2, none⟩ = some (.int .i64 c) := cell_of e5 rfl
  have z3 : W5.cell? ⟨w.heap.size + 1, 3, none⟩ = some (.slice va ns.length vc) := cell_of e5 rfl
  refine bodyPost_ret (v := .agg #[.bool b, .int .i64 p, .int .i64 c, .slice va ns.length vc]) (by simp [results, Tryz.results61, go_sem, z0, z1, z2, z3]) rfl ⟨_, rfl, ?_, ?_⟩
  · exact ownsRow_chg (ownsRow_low HROW.out hb1.size) hc5 fun k hk hh => by
      have := (HROW.out.lt k hk).1
      omega
  · refine ((hb1.trans (HB.out.mono hb1.size)).trans ⟨hc5.os, hc5.tape, hc5.output, hc5.size, fun k hk => hc5.block k ?_ (by omega)⟩)
    have := hb1.size
    omega
end Go.Proofs.YticobikhndlejabGreatDoor
