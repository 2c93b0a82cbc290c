/- package plain by contracts: New, Read, Write, Poll, Complete. -/
import Derived.Test.YticobikhndlejaaDoorQt2
namespace Go.Proofs.YticobikhndlejaaDoor
open Go.RowKit Go.Shelf Go.Lib

/-- An error value, taken apart. -/
inductive ErrIs (w : World) : Value → Int → Int → Int → Prop
  | nil : ErrIs w .nilIface 0 (-1) 0
  | kind (k : Int) (hk : 0 ≤ k ∧ k ≤ 10) : ErrIs w (errK k) k (-1) 0
  | req (b : Nat) (r t k : Int) (hk : 0 ≤ k ∧ k ≤ 10) (h : ReqErr w b r t k) : ErrIs w (errR b) k r t
theorem told_any {w : World} {err : Value} {k r t : Int} (hg : ErrVar w) (h : ErrIs w err k r t) : Calls Tryd.prog 18 #[err] w fun e w' => e = .returned (plErr k r t) ∧ Below w.heap.size w w' := by
  cases h with
  | nil => exact told_nil w
  | kind k hk => exact told_K k w hk hg
  | req b r t k hk h => exact told_R b r t k w hk hg h
abbrev zErr : Obj := .cells #[.int .i64 0, .int .i64 0, .int .i64 0, .bool false] 24
theorem err_set {W : World} {b : Nat} {x0 x1 x2 x3 : Value} {t : TypeId} (y0 y1 y2 y3 : Value) (h : W.heap[b]? = some (.cells #[x0, x1, x2, x3] t (0, 0))) :
    ((((W.setCell ⟨b, 0, none⟩ y0).setCell ⟨b, 1, none⟩ y1).setCell ⟨b, 2, none⟩ y2).setCell ⟨b, 3, none⟩ y3).heap[b]? = some (.cells #[y0, y1, y2, y3] t (0, 0)) ∧
    Chg (fun k => k = b) W ((((W.setCell ⟨b, 0, none⟩ y0).setCell ⟨b, 1, none⟩ y1).setCell ⟨b, 2, none⟩ y2).setCell ⟨b, 3, none⟩ y3) :=
  ⟨heap_setCell (i := 3) _ (heap_setCell (i := 2) _ (heap_setCell (i := 1) _ (heap_setCell (i := 0) _ h))), (((chg_set _).then (chg_set _)).then (chg_set _)).then (chg_set _)⟩

set_option maxRecDepth 100000 in
theorem plRead_of (q : Nat) (page k r t : Int) (w : World) (P : Value → Value → World → Prop)
    (hM : Calls Tryd.prog 31 #[ptr q, .int .i64 page] (w.alloc zErr) fun x w' => ∃ X err, x = .returned (.tuple #[X, err]) ∧ P X err w')
    (hP : ∀ X err w', P X err w' → ErrVar w' ∧ ErrIs w' err k r t ∧ w'.heap[w.heap.size]? = some zErr) :
    Calls Tryd.prog 21 #[ptr q, .int .i64 page] w fun x w' => ∃ X err w1, x = .returned (.tuple #[X, plErr k r t]) ∧ P X err w1 ∧ Chg (fun k => k = w.heap.size) w1 w' := by
  have HM := Lib.hid hM
  have HP := Lib.hid hP
  clear hM hP
  go_enter Tryd.func21, Tryd.ntmps21
  go_wp2_with fail
  refine HM.out.mono ?_
  rintro x w1 ⟨X, err, rfl, hp⟩
  obtain ⟨hg, he, hz⟩ := HP.out X err w1 hp
  have HT := Lib.hid (told_any hg he)
  have HPP := Lib.hid hp
  have HZ := Lib.hid hz
  clear hp hg he hz
  go_wp2_with fail
  refine HT.out.mono ?_
  rintro x w2 ⟨rfl, hB⟩
  have hz2 : w2.heap[w.heap.size]? = some zErr := (hB.block _ (lt_of_heap HZ.out)).trans HZ.out
  have z0 : w2.cell? ⟨w.heap.size, 0, none⟩ = some (.int .i64 0) := cell_of hz2 rfl
  have z1 : w2.cell? ⟨w.heap.size, 1, none⟩ = some (.int .i64 0) := cell_of hz2 rfl
  have z2 : w2.cell? ⟨w.heap.size, 2, none⟩ = some (.int .i64 0) := cell_of hz2 rfl
  have z3 : w2.cell? ⟨w.heap.size, 3, none⟩ = some (.bool false) := cell_of hz2 rfl
  have zf : ∀ i, w2.frozen? ⟨w.heap.size, i, none⟩ = false := fun i => free_of hz2
  have HB := Lib.hid hB
  have HZ2 := Lib.hid hz2
  clear hB hz2
  go_wp2_with fail
  obtain ⟨e5, hc5⟩ := err_set (W := w2) (.int .i64 k) (.int .i64 r) (.int .i64 t) (.bool true) HZ2.out
  obtain ⟨W5, hW5⟩ : ∃ W5, ((((w2.setCell ⟨w.heap.size, 0, none⟩ (.int .i64 k)).setCell ⟨w.heap.size, 1, none⟩ (.int .i64 r)).setCell ⟨w.heap.size, 2, none⟩ (.int .i64 t)).setCell ⟨w.heap.size, 3, none⟩ (.bool true)) = W5 := ⟨_, rfl⟩
  rw [hW5] at e5 hc5 ⊢
  have y0 : W5.cell? ⟨w.heap.size, 0, none⟩ = some (.int .i64 k) := cell_of e5 rfl
  have y1 : W5.cell? ⟨w.heap.size, 1, none⟩ = some (.int .i64 r) := cell_of e5 rfl
  have y2 : W5.cell? ⟨w.heap.size, 2, none⟩ = some (.int .i64 t) := cell_of e5 rfl
  have y3 : W5.cell? ⟨w.heap.size, 3, none⟩ = some (.bool true) := cell_of e5 rfl
  refine bodyPost_ret (v := .tuple #[X, plErr k r t]) (by simp [results, Tryd.results21, go_sem, y0, y1, y2, y3]) rfl ⟨X, err, w1, rfl, HPP.out, (chgB HB.out _).then hc5⟩
set_option maxRecDepth 100000 in
theorem plWrite_of (q : Nat) (v : Value) (page k r t : Int) (w : World) (P : Value → Value → World → Prop)
    (hM : Calls Tryd.prog 30 #[ptr q, .int .i64 page, v] (w.alloc zErr) fun x w' => ∃ X err, x = .returned (.tuple #[X, err]) ∧ P X err w')
    (hP : ∀ X err w', P X err w' → ErrVar w' ∧ ErrIs w' err k r t ∧ w'.heap[w.heap.size]? = some zErr) :
    Calls Tryd.prog 20 #[ptr q, .int .i64 page, v] w fun x w' => ∃ X err w1, x = .returned (.tuple #[X, plErr k r t]) ∧ P X err w1 ∧ Chg (fun k => k = w.heap.size) w1 w' := by
  have HM := Lib.hid hM
  have HP := Lib.hid hP
  clear hM hP
  go_enter Tryd.func20, Tryd.ntmps20
  go_wp2_with fail
  refine HM.out.mono ?_
  rintro x w1 ⟨X, err, rfl, hp⟩
  obtain ⟨hg, he, hz⟩ := HP.out X err w1 hp
  have HT := Lib.hid (told_any hg he)
  have HPP := Lib.hid hp
  have HZ := Lib.hid hz
  clear hp hg he hz
  go_wp2_with fail
  refine HT.out.mono ?_
  rintro x w2 ⟨rfl, hB⟩
  have hz2 : w2.heap[w.heap.size]? = some zErr := (hB.block _ (lt_of_heap HZ.out)).trans HZ.out
  have z0 : w2.cell? ⟨w.heap.size, 0, none⟩ = some (.int .i64 0) := cell_of hz2 rfl
  have z1 : w2.cell? ⟨w.heap.size, 1, none⟩ = some (.int .i64 0) := cell_of hz2 rfl
  have z2 : w2.cell? ⟨w.heap.size, 2, none⟩ = some (.int .i64 0) := cell_of hz2 rfl
  have z3 : w2.cell? ⟨w.heap.size, 3, none⟩ = some (.bool false) := cell_of hz2 rfl
  have zf : ∀ i, w2.frozen? ⟨w.heap.size, i, none⟩ = false := fun i => free_of hz2
  have HB := Lib.hid hB
  have HZ2 := Lib.hid hz2
  clear hB hz2
  go_wp2_with fail
  obtain ⟨e5, hc5⟩ := err_set (W := w2) (.int .i64 k) (.int .i64 r) (.int .i64 t) (.bool true) HZ2.out
  obtain ⟨W5, hW5⟩ : ∃ W5, ((((w2.setCell ⟨w.heap.size, 0, none⟩ (.int .i64 k)).setCell ⟨w.heap.size, 1, none⟩ (.int .i64 r)).setCell ⟨w.heap.size, 2, none⟩ (.int .i64 t)).setCell ⟨w.heap.size, 3, none⟩ (.bool true)) = W5 := ⟨_, rfl⟩
  rw [hW5] at e5 hc5 ⊢
  have y0 : W5.cell? ⟨w.heap.size, 0, none⟩ = some (.int .i64 k) := cell_of e5 rfl
  have y1 : W5.cell? ⟨w.heap.size, 1, none⟩ = some (.int .i64 r) := cell_of e5 rfl
  have y2 : W5.cell? ⟨w.heap.size, 2, none⟩ = some (.int .i64 t) := cell_of e5 rfl
  have y3 : W5.cell? ⟨w.heap.size, 3, none⟩ = some (.bool true) := cell_of e5 rfl
  refine bodyPost_ret (v := .tuple #[X, plErr k r t]) (by simp [results, Tryd.results20, go_sem, y0, y1, y2, y3]) rfl ⟨X, err, w1, rfl, HPP.out, (chgB HB.out _).then hc5⟩
set_option maxRecDepth 100000 in
theorem plNew_of (d k r t : Int) (w : World) (P : Value → Value → World → Prop)
    (hM : Calls Tryd.prog 29 #[.int .i64 d] (w.alloc zErr) fun x w' => ∃ X err, x = .returned (.tuple #[X, err]) ∧ P X err w')
    (hP : ∀ X err w', P X err w' → ErrVar w' ∧ ErrIs w' err k r t ∧ w'.heap[w.heap.size]? = some zErr) :
    Calls Tryd.prog 19 #[.int .i64 d] w fun x w' => ∃ X err w1, x = .returned (.tuple #[X, plErr k r t]) ∧ P X err w1 ∧ Chg (fun k => k = w.heap.size) w1 w' := by
  have HM := Lib.hid hM
  have HP := Lib.hid hP
  clear hM hP
  go_enter Tryd.func19, Tryd.ntmps19
  go_wp2_with fail
  refine HM.out.mono ?_
  rintro x w1 ⟨X, err, rfl, hp⟩
  obtain ⟨hg, he, hz⟩ := HP.out X err w1 hp
  have HT := Lib.hid (told_any hg he)
  have HPP := Lib.hid hp
  have HZ := Lib.hid hz
  clear hp hg he hz
  go_wp2_with fail
  refine HT.out.mono ?_
  rintro x w2 ⟨rfl, hB⟩
  have hz2 : w2.heap[w.heap.size]? = some zErr := (hB.block _ (lt_of_heap HZ.out)).trans HZ.out
  have z0 : w2.cell? ⟨w.heap.size, 0, none⟩ = some (.int .i64 0) := cell_of hz2 rfl
  have z1 : w2.cell? ⟨w.heap.size, 1, none⟩ = some (.int .i64 0) := cell_of hz2 rfl
  have z2 : w2.cell? ⟨w.heap.size, 2, none⟩ = some (.int .i64 0) := cell_of hz2 rfl
  have z3 : w2.cell? ⟨w.heap.size, 3, none⟩ = some (.bool false) := cell_of hz2 rfl
  have zf : ∀ i, w2.frozen? ⟨w.heap.size, i, none⟩ = false := fun i => free_of hz2
  have HB := Lib.hid hB
  have HZ2 := Lib.hid hz2
  clear hB hz2
  go_wp2_with fail
  obtain ⟨e5, hc5⟩ := err_set (W := w2) (.int .i64 k) (.int .i64 r) (.int .i64 t) (.bool true) HZ2.out
  obtain ⟨W5, hW5⟩ : ∃ W5, ((((w2.setCell ⟨w.heap.size, 0, none⟩ (.int .i64 k)).setCell ⟨w.heap.size, 1, none⟩ (.int .i64 r)).setCell ⟨w.heap.size, 2, none⟩ (.int .i64 t)).setCell ⟨w.heap.size, 3, none⟩ (.bool true)) = W5 := ⟨_, rfl⟩
  rw [hW5] at e5 hc5 ⊢
  have y0 : W5.cell? ⟨w.heap.size, 0, none⟩ = some (.int .i64 k) := cell_of e5 rfl
  have y1 : W5.cell? ⟨w.heap.size, 1, none⟩ = some (.int .i64 r) := cell_of e5 rfl
  have y2 : W5.cell? ⟨w.heap.size, 2, none⟩ = some (.int .i64 t) := cell_of e5 rfl
  have y3 : W5.cell? ⟨w.heap.size, 3, none⟩ = some (.bool true) := cell_of e5 rfl
  refine bodyPost_ret (v := .tuple #[X, plErr k r t]) (by simp [results, Tryd.results19, go_sem, y0, y1, y2, y3]) rfl ⟨X, err, w1, rfl, HPP.out, (chgB HB.out _).then hc5⟩
set_option maxRecDepth 100000 in
theorem plComplete_of (q : Nat) (fault : Bool) (n k r t : Int) (w : World) (P : Value → World → Prop)
    (hM : Calls Tryd.prog 25 #[ptr q, .int .i64 n, .bool fault] (w.alloc zErr) fun x w' => ∃ err, x = .returned err ∧ P err w')
    (hP : ∀ err w', P err w' → ErrVar w' ∧ ErrIs w' err k r t ∧ w'.heap[w.heap.size]? = some zErr) :
    Calls Tryd.prog 12 #[ptr q, .int .i64 n, .bool fault] w fun x w' => ∃ err w1, x = .returned (plErr k r t) ∧ P err w1 ∧ Chg (fun k => k = w.heap.size) w1 w' := by
  have HM := Lib.hid hM
  have HP := Lib.hid hP
  clear hM hP
  go_enter Tryd.func12, Tryd.ntmps12
  go_wp2_with fail
  refine HM.out.mono ?_
  rintro x w1 ⟨err, rfl, hp⟩
  obtain ⟨hg, he, hz⟩ := HP.out err w1 hp
  have HT := Lib.hid (told_any hg he)
  have HPP := Lib.hid hp
  have HZ := Lib.hid hz
  clear hp hg he hz
  go_wp2_with fail
  refine HT.out.mono ?_
  rintro x w2 ⟨rfl, hB⟩
  have hz2 : w2.heap[w.heap.size]? = some zErr := (hB.block _ (lt_of_heap HZ.out)).trans HZ.out
  have z0 : w2.cell? ⟨w.heap.size, 0, none⟩ = some (.int .i64 0) := cell_of hz2 rfl
  have z1 : w2.cell? ⟨w.heap.size, 1, none⟩ = some (.int .i64 0) := cell_of hz2 rfl
  have z2 : w2.cell? ⟨w.heap.size, 2, none⟩ = some (.int .i64 0) := cell_of hz2 rfl
  have z3 : w2.cell? ⟨w.heap.size, 3, none⟩ = some (.bool false) := cell_of hz2 rfl
  have zf : ∀ i, w2.frozen? ⟨w.heap.size, i, none⟩ = false := fun i => free_of hz2
  have HB := Lib.hid hB
  have HZ2 := Lib.hid hz2
  clear hB hz2
  go_wp2_with fail
  obtain ⟨e5, hc5⟩ := err_set (W := w2) (.int .i64 k) (.int .i64 r) (.int .i64 t) (.bool true) HZ2.out
  obtain ⟨W5, hW5⟩ : ∃ W5, ((((w2.setCell ⟨w.heap.size, 0, none⟩ (.int .i64 k)).setCell ⟨w.heap.size, 1, none⟩ (.int .i64 r)).setCell ⟨w.heap.size, 2, none⟩ (.int .i64 t)).setCell ⟨w.heap.size, 3, none⟩ (.bool true)) = W5 := ⟨_, rfl⟩
  rw [hW5] at e5 hc5 ⊢
  have y0 : W5.cell? ⟨w.heap.size, 0, none⟩ = some (.int .i64 k) := cell_of e5 rfl
  have y1 : W5.cell? ⟨w.heap.size, 1, none⟩ = some (.int .i64 r) := cell_of e5 rfl
  have y2 : W5.cell? ⟨w.heap.size, 2, none⟩ = some (.int .i64 t) := cell_of e5 rfl
  have y3 : W5.cell? ⟨w.heap.size, 3, none⟩ = some (.bool true) := cell_of e5 rfl
  refine bodyPost_ret (v := plErr k r t) (by simp [results, Tryd.results12, go_sem, y0, y1, y2, y3]) rfl ⟨err, w1, rfl, HPP.out, (chgB HB.out _).then hc5⟩
abbrev zAns : Obj := .cells #[.slice none 0 0, .int .i64 0] 46
theorem ErrIs.chg {w W : World} {err : Value} {k r t : Int} (h : ErrIs w err k r t) {S : Nat → Prop} (hc : Chg S w W) (hS : ∀ b, err = errR b → ¬ S b) : ErrIs W err k r t := by
  cases h with
  | nil => exact .nil
  | kind k hk => exact .kind k hk
  | req b r t k hk h => exact .req b r t k hk (h.chg hc (hS b rfl))
set_option maxRecDepth 100000 in
theorem plPoll_of (q : Nat) (n k r t : Int) (w : World) (P : Value → Int → Value → World → Prop)
    (hM : Calls Tryd.prog 26 #[ptr q, .int .i64 n] ((w.alloc zAns).alloc zErr) fun x w' => ∃ va vn vc tr err, x = .returned (.tuple #[.agg #[.slice va vn vc, .int .i64 tr], err]) ∧ P (.slice va vn vc) tr err w')
    (hP : ∀ v tr err w', P v tr err w' → ErrVar w' ∧ ErrIs w' err k r t ∧ w'.heap[w.heap.size]? = some zAns ∧ w'.heap[w.heap.size + 1]? = some zErr) :
    Calls Tryd.prog 13 #[ptr q, .int .i64 n] w fun x w' => ∃ v tr err w1, x = .returned (.tuple #[.agg #[v, .int .i64 tr], plErr k r t]) ∧ P v tr err w1 ∧ w.heap.size + 2 ≤ w1.heap.size ∧ Chg (fun k => k = w.heap.size ∨ k = w.heap.size + 1) w1 w' := by
  have HM := Lib.hid hM
  have HP := Lib.hid hP
  clear hM hP
  go_enter Tryd.func13, Tryd.ntmps13
  go_wp2_with fail
  refine HM.out.mono ?_
  rintro x w1 ⟨va, vn, vc, tr, err, rfl, hp⟩
  obtain ⟨hg, he, hza, hze⟩ := HP.out _ tr err w1 hp
  obtain ⟨W2, hW2⟩ : ∃ W2, w1.alloc (.cells #[.slice va vn vc, .int .i64 tr] 46) = W2 := ⟨_, rfl⟩
  have hB2 : Below w1.heap.size w1 W2 := by rw [← hW2]; exact (Below.refl _ _).alloc (Nat.le_refl _) _
  have hr2 : W2.heap[w1.heap.size]? = some (.cells #[.slice va vn vc, .int .i64 tr] 46 (0, 0)) := by rw [← hW2]; exact World.alloc_heap_new w1 _
  have a0 : W2.cell? ⟨w1.heap.size, 0, none⟩ = some (.slice va vn vc) := cell_of hr2 rfl
  have a1 : W2.cell? ⟨w1.heap.size, 1, none⟩ = some (.int .i64 tr) := cell_of hr2 rfl
  have HG := Lib.hid (hg.chg (chgB hB2 fun _ => False) fun x => x)
  have HE := Lib.hid (he.chg (chgB hB2 fun _ => False) fun _ _ x => x)
  have HA := Lib.hid ((hB2.block _ (lt_of_heap hza)).trans hza)
  have HZ := Lib.hid ((hB2.block _ (lt_of_heap hze)).trans hze)
  have HPP := Lib.hid hp
  have HB2 := Lib.hid hB2
  have hlt2 := lt_of_heap hr2
  have hl1 := lt_of_heap hze
  clear hp hg he hza hze hB2 hr2
  go_wp2_with fail
  have hn1 : w1.heap.size ≠ w.heap.size := by omega
  have hn2 : w1.heap.size ≠ w.heap.size + 1 := by omega
  have hn3 : w.heap.size ≠ w1.heap.size := by omega
  have hn4 : w.heap.size + 1 ≠ w1.heap.size := by omega
  go_region_held3 (fun w' => w'.cell? ⟨w1.heap.size, 0, none⟩ = some (.slice va vn vc) ∧ w'.cell? ⟨w1.heap.size, 1, none⟩ = some (.int .i64 tr)) (go_keep)
    (first
      | (go_at_call 18; refine (told_any (k := k) (r := r) (t := t) ?_ ?_).mono ?_; exact HG.out; exact HE.out.chg ((Chg.refl (fun _ => False) W2).drew) fun _ _ x => x
         rintro e w3 ⟨rfl, hB3⟩
         have e0 : w3.cell? ⟨w1.heap.size, 0, none⟩ = some (.slice va vn vc) := (hB3.cell (p := ⟨w1.heap.size, 0, none⟩) hlt2).trans a0
         have e1 : w3.cell? ⟨w1.heap.size, 1, none⟩ = some (.int .i64 tr) := (hB3.cell (p := ⟨w1.heap.size, 1, none⟩) hlt2).trans a1
         have z0 : w3.cell? ⟨w.heap.size, 0, none⟩ = some (.slice none 0 0) := cell_of ((hB3.block _ (lt_of_heap HA.out)).trans HA.out) rfl
         have z1 : w3.cell? ⟨w.heap.size, 1, none⟩ = some (.int .i64 0) := cell_of ((hB3.block _ (lt_of_heap HA.out)).trans HA.out) rfl
         have zf : ∀ i, w3.frozen? ⟨w.heap.size, i, none⟩ = false := fun i => free_of ((hB3.block _ (lt_of_heap HA.out)).trans HA.out)
         have x0 : w3.cell? ⟨w.heap.size + 1, 0, none⟩ = some (.int .i64 0) := cell_of ((hB3.block _ (lt_of_heap HZ.out)).trans HZ.out) rfl
         have x1 : w3.cell? ⟨w.heap.size + 1, 1, none⟩ = some (.int .i64 0) := cell_of ((hB3.block _ (lt_of_heap HZ.out)).trans HZ.out) rfl
         have x2 : w3.cell? ⟨w.heap.size + 1, 2, none⟩ = some (.int .i64 0) := cell_of ((hB3.block _ (lt_of_heap HZ.out)).trans HZ.out) rfl
         have x3 : w3.cell? ⟨w.heap.size + 1, 3, none⟩ = some (.bool false) := cell_of ((hB3.block _ (lt_of_heap HZ.out)).trans HZ.out) rfl
         have xf : ∀ i, w3.frozen? ⟨w.heap.size + 1, i, none⟩ = false := fun i => free_of ((hB3.block _ (lt_of_heap HZ.out)).trans HZ.out)))
  obtain ⟨f5, fc5⟩ := ans_set (W := w3) (.slice va vn vc) (.int .i64 tr) ((hB3.block _ (lt_of_heap HA.out)).trans HA.out)
  obtain ⟨W4, hW4⟩ : ∃ W4, (w3.setCell ⟨w.heap.size, 0, none⟩ (.slice va vn vc)).setCell ⟨w.heap.size, 1, none⟩ (.int .i64 tr) = W4 := ⟨_, rfl⟩
  rw [hW4] at f5 fc5 ⊢
  have hz4 : W4.heap[w.heap.size + 1]? = some zErr := (fc5.block _ (Nat.lt_of_lt_of_le (lt_of_heap HZ.out) hB3.size) (by omega)).trans ((hB3.block _ (lt_of_heap HZ.out)).trans HZ.out)
  obtain ⟨g5, gc5⟩ := err_set (W := W4) (.int .i64 k) (.int .i64 r) (.int .i64 t) (.bool true) hz4
  obtain ⟨W5, hW5⟩ : ∃ W5, ((((W4.setCell ⟨w.heap.size + 1, 0, none⟩ (.int .i64 k)).setCell ⟨w.heap.size + 1, 1, none⟩ (.int .i64 r)).setCell ⟨w.heap.size + 1, 2, none⟩ (.int .i64 t)).setCell ⟨w.heap.size + 1, 3, none⟩ (.bool true)) = W5 := ⟨_, rfl⟩
  rw [hW5] at g5 gc5 ⊢
  have h5 : W5.heap[w.heap.size]? = some (.cells #[.slice va vn vc, .int .i64 tr] 46 (0, 0)) := (gc5.block _ (lt_of_heap f5) (by omega)).trans f5
  have y0 : W5.cell? ⟨w.heap.size + 1, 0, none⟩ = some (.int .i64 k) := cell_of g5 rfl
  have y1 : W5.cell? ⟨w.heap.size + 1, 1, none⟩ = some (.int .i64 r) := cell_of g5 rfl
  have y2 : W5.cell? ⟨w.heap.size + 1, 2, none⟩ = some (.int .i64 t) := cell_of g5 rfl
  have y3 : W5.cell? ⟨w.heap.size + 1, 3, none⟩ = some (.bool true) := cell_of g5 rfl
  have u0 : W5.cell? ⟨w.heap.size, 0, none⟩ = some (.slice va vn vc) := cell_of h5 rfl
  have u1 : W5.cell? ⟨w.heap.size, 1, none⟩ = some (.int .i64 tr) := cell_of h5 rfl
  have hfin : Chg (fun k => k = w.heap.size ∨ k = w.heap.size + 1) w1 W5 := (((chgB HB2.out _).drew.of_below hB3).then (fc5.mono fun _ _ h => .inl h)).then (gc5.mono fun _ _ h => .inr h)
  go_wp2_with fail
  refine bodyPost_ret (v := .tuple #[.agg #[.slice va vn vc, .int .i64 tr], plErr k r t]) (by simp [results, Tryd.results13, go_sem, y0, y1, y2, y3, u0, u1]) rfl ⟨_, tr, err, w1, rfl, HPP.out, by omega, hfin⟩
end Go.Proofs.YticobikhndlejaaDoor
