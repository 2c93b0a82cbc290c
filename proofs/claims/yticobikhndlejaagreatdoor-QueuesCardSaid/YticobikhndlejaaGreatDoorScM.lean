/- Queue.land by contract, case by case (printed by gen_land.py). -/
import Derived.Test.YticobikhndlejaaGreatDoorScL
namespace Go.Proofs.YticobikhndlejaaGreatDoor
open Go.RowKit Go.Shelf Go.Lib

set_option maxRecDepth 100000 in
set_option maxHeartbeats 400000 in
theorem land_wn (q tb mb clock pg : Nat) (fv : Value) (s : Sta) (w : World) (e : Ent) (d0 d1 d2 d3 : Int) (h : QB w q tb mb clock fv s) (he : e ∈ s.es) (hL : LandB w q tb fv s e pg d0 d1 d2 d3) (_ht : 0 ≤ e.r.tries ∧ e.r.tries ≤ 3) (_hn : 0 ≤ s.now ∧ s.now < 2 ^ 60) (hw : e.r.write = true) (hs : e.r.state ≠ 1) :
    Calls Tryz.prog 72 #[ptr q, ptr e.p, .bool false] w fun x w' => x = .returned (.tuple #[]) ∧
      QB w' q tb mb clock fv { s with es := landE (updE s.es e.r.num fun _ => St.landR s.now s.disk false e.r) ⟨St.landR s.now s.disk false e.r, e.p, e.born⟩, disk := St.landD s.disk false e.r } ∧ Chg (fun k => k = q ∨ k = mb ∨ k = e.p) w w' := by
  have hw8 : IntKind.i64.wrap (e.r.tries + 1) = e.r.tries + 1 := by rw [IntKind.wrap_i64]; omega
  have hrf : St.landR s.now s.disk false e.r = { e.r with tries := e.r.tries + 1, inAir := false, data := e.r.data, state := e.r.state, alone := e.r.alone, after := e.r.after } := by
    simp [St.landR, hw, hs]
  have hdf : St.landD s.disk false e.r = dput s.disk pg e.r.data := by simp [St.landD, hw, hL.page]
  rw [hrf, hdf]
  clear hrf hdf
  have c1 := h.c1
  have hR := hL.req
  have a1 := hR.at.c1
  have a2 := hR.at.c2
  have a3 := hR.at.c3
  have a4 := hR.at.c4
  have a5 := hR.at.c5
  have a6 := hR.at.c6
  have a7 := hR.at.c7
  have a8 := hR.at.c8
  have a9 := hR.at.c9
  have a10 := hR.at.c10
  have a11 := hR.at.c11
  have af : ∀ i, w.frozen? ⟨e.p, i, none⟩ = false := fun i => free_of hR
  have qf : ∀ i, w.frozen? ⟨q, i, none⟩ = false := fun i => free_of hL.que
  obtain ⟨k0, k1, k2, k3⟩ := hL.disk
  have hne := h.ne_qp he
  have hne2 := hne.symm
  have hpg := hL.p16
  have hp0 : (0 : Int) ≤ (pg : Int) := by omega
  have hp1 : (pg : Int) < 16 := by omega
  rw [hL.page] at a2
  rw [hw] at a1
  have hsb : (e.r.state == 1) = false := by simpa using hs
  obtain ⟨W1, hW1⟩ : ∃ W1, (w.setCell ⟨e.p, 8, none⟩ (.int .i64 (e.r.tries + 1))).setCell ⟨e.p, 11, none⟩ (.bool false) = W1 := ⟨_, rfl⟩
  have hb1 : ReqB W1 e.p { e.r with tries := e.r.tries + 1, inAir := false } := by rw [← hW1]; exact heap_setCell (i := 11) _ (heap_setCell (i := 8) _ hR)
  have hc1 : Chg (fun k => k = q ∨ k = e.p) w W1 := by rw [← hW1]; exact ((chg_set _).then (chg_set _)).mono fun k _ hk => .inr hk
  have hq1 : W1.heap[q]? = some (.cells (qCells tb fv s) 89 (0, 0)) := by
    rw [← hW1, heap_setCell_ne _ hne, heap_setCell_ne _ hne]; exact h.que
  obtain ⟨W2, hW2⟩ : ∃ W2, ((((W1.setCell ⟨q, 5 + pg * 4, none⟩ (.int .u8 e.r.data.a)).setCell ⟨q, 5 + pg * 4 + 1, none⟩ (.int .u8 e.r.data.b)).setCell ⟨q, 5 + pg * 4 + 2, none⟩ (.int .u8 e.r.data.c)).setCell ⟨q, 5 + pg * 4 + 3, none⟩ (.int .u8 e.r.data.d)).drew = W2 := ⟨_, rfl⟩
  have hc2 : Chg (fun k => k = q) W1 W2 := by rw [← hW2]; exact ((((chg_set _).then (chg_set _)).then (chg_set _)).then (chg_set _)).drew
  have hq2 : W2.heap[q]? = some (.cells (qCells tb fv { s with disk := dput s.disk pg e.r.data }) 89 (0, 0)) := by
    rw [← hW2, ← qCells_dput]
    exact heap_setCell (i := 5 + pg * 4 + 3) _ (heap_setCell (i := 5 + pg * 4 + 2) _ (heap_setCell (i := 5 + pg * 4 + 1) _ (heap_setCell (i := 5 + pg * 4) _ hq1)))
  have hb2 : ReqB W2 e.p { e.r with tries := e.r.tries + 1, inAir := false } := (hc2.block _ (lt_of_heap hb1) hne.symm).trans hb1
  have hcw2 : Chg (fun k => k = q ∨ k = e.p) w W2 := hc1.then (hc2.mono fun k _ hk => .inl hk)
  obtain ⟨W3, hW3⟩ : ∃ W3, W2 = W3 := ⟨_, rfl⟩
  rw [hW3] at hW2
  rw [hW3] at hq2 hb2 hcw2
  have hf := land_end h he (r' := { e.r with tries := e.r.tries + 1, inAir := false }) (disk' := dput s.disk pg e.r.data) ⟨rfl, rfl⟩ (by simp [dput]; exact h.disk) hq2 hb2 hcw2
  have hcw3 := hcw2
  have b1 : W1.cell? ⟨e.p, 1, none⟩ = some (.bool true) := by have := hb1.at.c1; rw [← hw]; exact this
  have b2 : W1.cell? ⟨e.p, 2, none⟩ = some (.int .i64 pg) := by have := hb1.at.c2; rw [← hL.page]; exact this
  have b3 : W1.cell? ⟨e.p, 3, none⟩ = some (.int .u8 e.r.data.a) := hb1.at.c3
  have b4 : W1.cell? ⟨e.p, 3 + 1, none⟩ = some (.int .u8 e.r.data.b) := hb1.at.c4
  have b5 : W1.cell? ⟨e.p, 3 + 2, none⟩ = some (.int .u8 e.r.data.c) := hb1.at.c5
  have b6 : W1.cell? ⟨e.p, 3 + 3, none⟩ = some (.int .u8 e.r.data.d) := hb1.at.c6
  have bf : ∀ i, W1.frozen? ⟨e.p, i, none⟩ = false := fun i => free_of hb1
  have df : ∀ i, W1.frozen? ⟨q, i, none⟩ = false := fun i => free_of hq1
  have hq10 : W1.heap[q]? = w.heap[q]? := hq1.trans h.que.symm
  have l0 : W1.cell? ⟨q, 5 + pg * 4, none⟩ = some (.int .u8 d0) := (World.cell?_of_block (w := w) (a := ⟨q, 5 + pg * 4, none⟩) hq10).trans k0
  have l1 : W1.cell? ⟨q, 5 + pg * 4 + 1, none⟩ = some (.int .u8 d1) := (World.cell?_of_block (w := w) (a := ⟨q, 5 + pg * 4 + 1, none⟩) hq10).trans k1
  have l2 : W1.cell? ⟨q, 5 + pg * 4 + 2, none⟩ = some (.int .u8 d2) := (World.cell?_of_block (w := w) (a := ⟨q, 5 + pg * 4 + 2, none⟩) hq10).trans k2
  have l3 : W1.cell? ⟨q, 5 + pg * 4 + 3, none⟩ = some (.int .u8 d3) := (World.cell?_of_block (w := w) (a := ⟨q, 5 + pg * 4 + 3, none⟩) hq10).trans k3
  have g7 : W3.cell? ⟨e.p, 7, none⟩ = some (.int .i64 e.r.state) := by have := hb2.at.c7; exact this
  have g8 : W3.cell? ⟨e.p, 8, none⟩ = some (.int .i64 (e.r.tries + 1)) := hb2.at.c8
  have g10 : W3.cell? ⟨e.p, 10, none⟩ = some (.bool e.r.alone) := hb2.at.c10
  have gf : ∀ i, W3.frozen? ⟨e.p, i, none⟩ = false := fun i => free_of hb2
  have m1 : W3.cell? ⟨q, 1, none⟩ = some (ptr tb) := hf.1.c1
  have HF := Lib.hid hf
  have HCW := Lib.hid hcw3
  have HW2 := Lib.hid hW2
  clear hW2
  clear h hR hL he hw hs hb1 hc1 hq1 hq2 hb2 hcw2 hcw3 hf k0 k1 k2 k3 hq10 hc2
  go_enter Tryz.func72, Tryz.ntmps72
  go_wp2_with fail
  go_region_held3 (fun w' => w'.cell? ⟨e.p, 2, none⟩ = some (.int .i64 pg) ∧ w'.cell? ⟨e.p, 3, none⟩ = some (.int .u8 e.r.data.a) ∧ w'.cell? ⟨e.p, 3 + 1, none⟩ = some (.int .u8 e.r.data.b) ∧ w'.cell? ⟨e.p, 3 + 2, none⟩ = some (.int .u8 e.r.data.c) ∧ w'.cell? ⟨e.p, 3 + 3, none⟩ = some (.int .u8 e.r.data.d)) (first | (go_keep; done) | (exact ⟨Z1, Z2, Z3, Z4, Z5⟩)) (fail)
  rw [HW2.out]
  go_wp2_with fail
  refine (land_any tb mb clock s.last s.held _ _ HF.out.1.tab _ HF.out.2).mono ?_
  rintro x w' ⟨rfl, hT, hc⟩
  go_wp2_with fail
  go_end0
  exact ⟨rfl, land_fin HF.out.1 hT hc, (HCW.out.mono fun k _ hk => hk.imp id .inr).then (hc.mono fun k _ hk => .inr (.inl hk))⟩

set_option maxRecDepth 100000 in
set_option maxHeartbeats 400000 in
theorem land_wd (q tb mb clock pg : Nat) (fv : Value) (s : Sta) (w : World) (e : Ent) (d0 d1 d2 d3 : Int) (h : QB w q tb mb clock fv s) (he : e ∈ s.es) (hL : LandB w q tb fv s e pg d0 d1 d2 d3) (_ht : 0 ≤ e.r.tries ∧ e.r.tries ≤ 3) (_hn : 0 ≤ s.now ∧ s.now < 2 ^ 60) (hw : e.r.write = true) (hs : e.r.state = 1) :
    Calls Tryz.prog 72 #[ptr q, ptr e.p, .bool false] w fun x w' => x = .returned (.tuple #[]) ∧
      QB w' q tb mb clock fv { s with es := landE (updE s.es e.r.num fun _ => St.landR s.now s.disk false e.r) ⟨St.landR s.now s.disk false e.r, e.p, e.born⟩, disk := St.landD s.disk false e.r } ∧ Chg (fun k => k = q ∨ k = mb ∨ k = e.p) w w' := by
  have hw8 : IntKind.i64.wrap (e.r.tries + 1) = e.r.tries + 1 := by rw [IntKind.wrap_i64]; omega
  have hrf : St.landR s.now s.disk false e.r = { e.r with tries := e.r.tries + 1, inAir := false, data := e.r.data, state := 2, alone := e.r.alone, after := e.r.after } := by
    simp [St.landR, hw, hs]
  have hdf : St.landD s.disk false e.r = dput s.disk pg e.r.data := by simp [St.landD, hw, hL.page]
  rw [hrf, hdf]
  clear hrf hdf
  have c1 := h.c1
  have hR := hL.req
  have a1 := hR.at.c1
  have a2 := hR.at.c2
  have a3 := hR.at.c3
  have a4 := hR.at.c4
  have a5 := hR.at.c5
  have a6 := hR.at.c6
  have a7 := hR.at.c7
  have a8 := hR.at.c8
  have a9 := hR.at.c9
  have a10 := hR.at.c10
  have a11 := hR.at.c11
  have af : ∀ i, w.frozen? ⟨e.p, i, none⟩ = false := fun i => free_of hR
  have qf : ∀ i, w.frozen? ⟨q, i, none⟩ = false := fun i => free_of hL.que
  obtain ⟨k0, k1, k2, k3⟩ := hL.disk
  have hne := h.ne_qp he
  have hne2 := hne.symm
  have hpg := hL.p16
  have hp0 : (0 : Int) ≤ (pg : Int) := by omega
  have hp1 : (pg : Int) < 16 := by omega
  rw [hL.page] at a2
  rw [hs] at a7
  rw [hw] at a1
  obtain ⟨W1, hW1⟩ : ∃ W1, (w.setCell ⟨e.p, 8, none⟩ (.int .i64 (e.r.tries + 1))).setCell ⟨e.p, 11, none⟩ (.bool false) = W1 := ⟨_, rfl⟩
  have hb1 : ReqB W1 e.p { e.r with tries := e.r.tries + 1, inAir := false } := by rw [← hW1]; exact heap_setCell (i := 11) _ (heap_setCell (i := 8) _ hR)
  have hc1 : Chg (fun k => k = q ∨ k = e.p) w W1 := by rw [← hW1]; exact ((chg_set _).then (chg_set _)).mono fun k _ hk => .inr hk
  have hq1 : W1.heap[q]? = some (.cells (qCells tb fv s) 89 (0, 0)) := by
    rw [← hW1, heap_setCell_ne _ hne, heap_setCell_ne _ hne]; exact h.que
  obtain ⟨W2, hW2⟩ : ∃ W2, ((((W1.setCell ⟨q, 5 + pg * 4, none⟩ (.int .u8 e.r.data.a)).setCell ⟨q, 5 + pg * 4 + 1, none⟩ (.int .u8 e.r.data.b)).setCell ⟨q, 5 + pg * 4 + 2, none⟩ (.int .u8 e.r.data.c)).setCell ⟨q, 5 + pg * 4 + 3, none⟩ (.int .u8 e.r.data.d)).drew = W2 := ⟨_, rfl⟩
  have hc2 : Chg (fun k => k = q) W1 W2 := by rw [← hW2]; exact ((((chg_set _).then (chg_set _)).then (chg_set _)).then (chg_set _)).drew
  have hq2 : W2.heap[q]? = some (.cells (qCells tb fv { s with disk := dput s.disk pg e.r.data }) 89 (0, 0)) := by
    rw [← hW2, ← qCells_dput]
    exact heap_setCell (i := 5 + pg * 4 + 3) _ (heap_setCell (i := 5 + pg * 4 + 2) _ (heap_setCell (i := 5 + pg * 4 + 1) _ (heap_setCell (i := 5 + pg * 4) _ hq1)))
  have hb2 : ReqB W2 e.p { e.r with tries := e.r.tries + 1, inAir := false } := (hc2.block _ (lt_of_heap hb1) hne.symm).trans hb1
  have hcw2 : Chg (fun k => k = q ∨ k = e.p) w W2 := hc1.then (hc2.mono fun k _ hk => .inl hk)
  obtain ⟨W3, hW3⟩ : ∃ W3, W2.setCell ⟨e.p, 7, none⟩ (.int .i64 2) = W3 := ⟨_, rfl⟩
  have hc3 : Chg (fun k => k = e.p) W2 W3 := by rw [← hW3]; exact chg_set _
  have hf := land_end (W := W3) h he (r' := { e.r with tries := e.r.tries + 1, inAir := false, state := 2 }) (disk' := dput s.disk pg e.r.data) ⟨rfl, rfl⟩ (by simp [dput]; exact h.disk) ((hc3.block _ (lt_of_heap hq2) hne).trans hq2) (by rw [← hW3]; exact heap_setCell (i := 7) _ hb2) (hcw2.then (hc3.mono fun k _ hk => .inr hk))
  have hcw3 : Chg (fun k => k = q ∨ k = e.p) w W3 := hcw2.then (hc3.mono fun k _ hk => .inr hk)
  have b1 : W1.cell? ⟨e.p, 1, none⟩ = some (.bool true) := by have := hb1.at.c1; rw [← hw]; exact this
  have b2 : W1.cell? ⟨e.p, 2, none⟩ = some (.int .i64 pg) := by have := hb1.at.c2; rw [← hL.page]; exact this
  have b3 : W1.cell? ⟨e.p, 3, none⟩ = some (.int .u8 e.r.data.a) := hb1.at.c3
  have b4 : W1.cell? ⟨e.p, 3 + 1, none⟩ = some (.int .u8 e.r.data.b) := hb1.at.c4
  have b5 : W1.cell? ⟨e.p, 3 + 2, none⟩ = some (.int .u8 e.r.data.c) := hb1.at.c5
  have b6 : W1.cell? ⟨e.p, 3 + 3, none⟩ = some (.int .u8 e.r.data.d) := hb1.at.c6
  have bf : ∀ i, W1.frozen? ⟨e.p, i, none⟩ = false := fun i => free_of hb1
  have df : ∀ i, W1.frozen? ⟨q, i, none⟩ = false := fun i => free_of hq1
  have hq10 : W1.heap[q]? = w.heap[q]? := hq1.trans h.que.symm
  have l0 : W1.cell? ⟨q, 5 + pg * 4, none⟩ = some (.int .u8 d0) := (World.cell?_of_block (w := w) (a := ⟨q, 5 + pg * 4, none⟩) hq10).trans k0
  have l1 : W1.cell? ⟨q, 5 + pg * 4 + 1, none⟩ = some (.int .u8 d1) := (World.cell?_of_block (w := w) (a := ⟨q, 5 + pg * 4 + 1, none⟩) hq10).trans k1
  have l2 : W1.cell? ⟨q, 5 + pg * 4 + 2, none⟩ = some (.int .u8 d2) := (World.cell?_of_block (w := w) (a := ⟨q, 5 + pg * 4 + 2, none⟩) hq10).trans k2
  have l3 : W1.cell? ⟨q, 5 + pg * 4 + 3, none⟩ = some (.int .u8 d3) := (World.cell?_of_block (w := w) (a := ⟨q, 5 + pg * 4 + 3, none⟩) hq10).trans k3
  have g7 : W2.cell? ⟨e.p, 7, none⟩ = some (.int .i64 1) := by have := hb2.at.c7; simp only [hs] at this; exact this
  have g8 : W2.cell? ⟨e.p, 8, none⟩ = some (.int .i64 (e.r.tries + 1)) := hb2.at.c8
  have g10 : W2.cell? ⟨e.p, 10, none⟩ = some (.bool e.r.alone) := hb2.at.c10
  have gf : ∀ i, W2.frozen? ⟨e.p, i, none⟩ = false := fun i => free_of hb2
  have m1 : W3.cell? ⟨q, 1, none⟩ = some (ptr tb) := hf.1.c1
  have HF := Lib.hid hf
  have HCW := Lib.hid hcw3
  have HW2 := Lib.hid hW2
  clear hW2
  clear h hR hL he hw hs hb1 hc1 hq1 hq2 hb2 hcw2 hcw3 hf k0 k1 k2 k3 hq10 hc2 hc3
  go_enter Tryz.func72, Tryz.ntmps72
  go_wp2_with fail
  go_region_held3 (fun w' => w'.cell? ⟨e.p, 2, none⟩ = some (.int .i64 pg) ∧ w'.cell? ⟨e.p, 3, none⟩ = some (.int .u8 e.r.data.a) ∧ w'.cell? ⟨e.p, 3 + 1, none⟩ = some (.int .u8 e.r.data.b) ∧ w'.cell? ⟨e.p, 3 + 2, none⟩ = some (.int .u8 e.r.data.c) ∧ w'.cell? ⟨e.p, 3 + 3, none⟩ = some (.int .u8 e.r.data.d)) (first | (go_keep; done) | (exact ⟨Z1, Z2, Z3, Z4, Z5⟩)) (fail)
  rw [HW2.out]
  go_wp2_with fail
  refine (land_any tb mb clock s.last s.held _ _ HF.out.1.tab _ HF.out.2).mono ?_
  rintro x w' ⟨rfl, hT, hc⟩
  go_wp2_with fail
  go_end0
  exact ⟨rfl, land_fin HF.out.1 hT hc, (HCW.out.mono fun k _ hk => hk.imp id .inr).then (hc.mono fun k _ hk => .inr (.inl hk))⟩

set_option maxRecDepth 100000 in
set_option maxHeartbeats 400000 in
theorem land_rn (q tb mb clock pg : Nat) (fv : Value) (s : Sta) (w : World) (e : Ent) (d0 d1 d2 d3 : Int) (h : QB w q tb mb clock fv s) (he : e ∈ s.es) (hL : LandB w q tb fv s e pg d0 d1 d2 d3) (_ht : 0 ≤ e.r.tries ∧ e.r.tries ≤ 3) (_hn : 0 ≤ s.now ∧ s.now < 2 ^ 60) (hw : e.r.write = false) (hs : e.r.state ≠ 1) :
    Calls Tryz.prog 72 #[ptr q, ptr e.p, .bool false] w fun x w' => x = .returned (.tuple #[]) ∧
      QB w' q tb mb clock fv { s with es := landE (updE s.es e.r.num fun _ => St.landR s.now s.disk false e.r) ⟨St.landR s.now s.disk false e.r, e.p, e.born⟩, disk := St.landD s.disk false e.r } ∧ Chg (fun k => k = q ∨ k = mb ∨ k = e.p) w w' := by
  have hw8 : IntKind.i64.wrap (e.r.tries + 1) = e.r.tries + 1 := by rw [IntKind.wrap_i64]; omega
  have hrf : St.landR s.now s.disk false e.r = { e.r with tries := e.r.tries + 1, inAir := false, data := ⟨d0, d1, d2, d3⟩, state := e.r.state, alone := e.r.alone, after := e.r.after } := by
    simp [St.landR, hw, hs, hL.dg]
  have hdf : St.landD s.disk false e.r = s.disk := by simp [St.landD, hw]
  rw [hrf, hdf]
  clear hrf hdf
  have c1 := h.c1
  have hR := hL.req
  have a1 := hR.at.c1
  have a2 := hR.at.c2
  have a3 := hR.at.c3
  have a4 := hR.at.c4
  have a5 := hR.at.c5
  have a6 := hR.at.c6
  have a7 := hR.at.c7
  have a8 := hR.at.c8
  have a9 := hR.at.c9
  have a10 := hR.at.c10
  have a11 := hR.at.c11
  have af : ∀ i, w.frozen? ⟨e.p, i, none⟩ = false := fun i => free_of hR
  have qf : ∀ i, w.frozen? ⟨q, i, none⟩ = false := fun i => free_of hL.que
  obtain ⟨k0, k1, k2, k3⟩ := hL.disk
  have hne := h.ne_qp he
  have hne2 := hne.symm
  have hpg := hL.p16
  have hp0 : (0 : Int) ≤ (pg : Int) := by omega
  have hp1 : (pg : Int) < 16 := by omega
  rw [hL.page] at a2
  rw [hw] at a1
  have hsb : (e.r.state == 1) = false := by simpa using hs
  obtain ⟨W1, hW1⟩ : ∃ W1, (w.setCell ⟨e.p, 8, none⟩ (.int .i64 (e.r.tries + 1))).setCell ⟨e.p, 11, none⟩ (.bool false) = W1 := ⟨_, rfl⟩
  have hb1 : ReqB W1 e.p { e.r with tries := e.r.tries + 1, inAir := false } := by rw [← hW1]; exact heap_setCell (i := 11) _ (heap_setCell (i := 8) _ hR)
  have hc1 : Chg (fun k => k = q ∨ k = e.p) w W1 := by rw [← hW1]; exact ((chg_set _).then (chg_set _)).mono fun k _ hk => .inr hk
  have hq1 : W1.heap[q]? = some (.cells (qCells tb fv s) 89 (0, 0)) := by
    rw [← hW1, heap_setCell_ne _ hne, heap_setCell_ne _ hne]; exact h.que
  obtain ⟨W2, hW2⟩ : ∃ W2, ((((W1.setCell ⟨e.p, 3, none⟩ (.int .u8 d0)).setCell ⟨e.p, 3 + 1, none⟩ (.int .u8 d1)).setCell ⟨e.p, 3 + 2, none⟩ (.int .u8 d2)).setCell ⟨e.p, 3 + 3, none⟩ (.int .u8 d3)).drew = W2 := ⟨_, rfl⟩
  have hc2 : Chg (fun k => k = e.p) W1 W2 := by rw [← hW2]; exact ((((chg_set _).then (chg_set _)).then (chg_set _)).then (chg_set _)).drew
  have hq2 : W2.heap[q]? = some (.cells (qCells tb fv s) 89 (0, 0)) := (hc2.block _ (lt_of_heap hq1) hne).trans hq1
  have hb2 : ReqB W2 e.p { e.r with tries := e.r.tries + 1, inAir := false, data := ⟨d0, d1, d2, d3⟩ } := by
    rw [← hW2]
    exact heap_setCell (i := 6) _ (heap_setCell (i := 5) _ (heap_setCell (i := 4) _ (heap_setCell (i := 3) _ hb1)))
  have hcw2 : Chg (fun k => k = q ∨ k = e.p) w W2 := hc1.then (hc2.mono fun k _ hk => .inr hk)
  obtain ⟨W3, hW3⟩ : ∃ W3, W2 = W3 := ⟨_, rfl⟩
  rw [hW3] at hW2
  rw [hW3] at hq2 hb2 hcw2
  have hf := land_end h he (r' := { e.r with tries := e.r.tries + 1, inAir := false, data := ⟨d0, d1, d2, d3⟩ }) (disk' := s.disk) ⟨rfl, rfl⟩ (by exact h.disk) hq2 hb2 hcw2
  have hcw3 := hcw2
  have b1 : W1.cell? ⟨e.p, 1, none⟩ = some (.bool false) := by have := hb1.at.c1; rw [← hw]; exact this
  have b2 : W1.cell? ⟨e.p, 2, none⟩ = some (.int .i64 pg) := by have := hb1.at.c2; rw [← hL.page]; exact this
  have b3 : W1.cell? ⟨e.p, 3, none⟩ = some (.int .u8 e.r.data.a) := hb1.at.c3
  have b4 : W1.cell? ⟨e.p, 3 + 1, none⟩ = some (.int .u8 e.r.data.b) := hb1.at.c4
  have b5 : W1.cell? ⟨e.p, 3 + 2, none⟩ = some (.int .u8 e.r.data.c) := hb1.at.c5
  have b6 : W1.cell? ⟨e.p, 3 + 3, none⟩ = some (.int .u8 e.r.data.d) := hb1.at.c6
  have bf : ∀ i, W1.frozen? ⟨e.p, i, none⟩ = false := fun i => free_of hb1
  have df : ∀ i, W1.frozen? ⟨q, i, none⟩ = false := fun i => free_of hq1
  have hq10 : W1.heap[q]? = w.heap[q]? := hq1.trans h.que.symm
  have l0 : W1.cell? ⟨q, 5 + pg * 4, none⟩ = some (.int .u8 d0) := (World.cell?_of_block (w := w) (a := ⟨q, 5 + pg * 4, none⟩) hq10).trans k0
  have l1 : W1.cell? ⟨q, 5 + pg * 4 + 1, none⟩ = some (.int .u8 d1) := (World.cell?_of_block (w := w) (a := ⟨q, 5 + pg * 4 + 1, none⟩) hq10).trans k1
  have l2 : W1.cell? ⟨q, 5 + pg * 4 + 2, none⟩ = some (.int .u8 d2) := (World.cell?_of_block (w := w) (a := ⟨q, 5 + pg * 4 + 2, none⟩) hq10).trans k2
  have l3 : W1.cell? ⟨q, 5 + pg * 4 + 3, none⟩ = some (.int .u8 d3) := (World.cell?_of_block (w := w) (a := ⟨q, 5 + pg * 4 + 3, none⟩) hq10).trans k3
  have g7 : W3.cell? ⟨e.p, 7, none⟩ = some (.int .i64 e.r.state) := by have := hb2.at.c7; exact this
  have g8 : W3.cell? ⟨e.p, 8, none⟩ = some (.int .i64 (e.r.tries + 1)) := hb2.at.c8
  have g10 : W3.cell? ⟨e.p, 10, none⟩ = some (.bool e.r.alone) := hb2.at.c10
  have gf : ∀ i, W3.frozen? ⟨e.p, i, none⟩ = false := fun i => free_of hb2
  have m1 : W3.cell? ⟨q, 1, none⟩ = some (ptr tb) := hf.1.c1
  have HF := Lib.hid hf
  have HCW := Lib.hid hcw3
  have HZ : Hid (W3.cell? ⟨e.p, 2, none⟩ = some (.int .i64 pg) ∧ W3.cell? ⟨q, 5 + pg * 4, none⟩ = some (.int .u8 d0) ∧ W3.cell? ⟨q, 5 + pg * 4 + 1, none⟩ = some (.int .u8 d1) ∧ W3.cell? ⟨q, 5 + pg * 4 + 2, none⟩ = some (.int .u8 d2) ∧ W3.cell? ⟨q, 5 + pg * 4 + 3, none⟩ = some (.int .u8 d3)) := Lib.hid (by
    have hqq : W3.heap[q]? = w.heap[q]? := hq2.trans h.que.symm
    have := hb2.at.c2
    refine ⟨by rw [← hL.page]; exact this, (World.cell?_of_block (w := w) (a := ⟨q, 5 + pg * 4, none⟩) hqq).trans k0, (World.cell?_of_block (w := w) (a := ⟨q, 5 + pg * 4 + 1, none⟩) hqq).trans k1, (World.cell?_of_block (w := w) (a := ⟨q, 5 + pg * 4 + 2, none⟩) hqq).trans k2, (World.cell?_of_block (w := w) (a := ⟨q, 5 + pg * 4 + 3, none⟩) hqq).trans k3⟩)
  have HW2 := Lib.hid hW2
  clear hW2
  clear h hR hL he hw hs hb1 hc1 hq1 hq2 hb2 hcw2 hcw3 hf k0 k1 k2 k3 hq10 hc2
  go_enter Tryz.func72, Tryz.ntmps72
  go_wp2_with fail
  have Z1 : W3.cell? ⟨e.p, 2, none⟩ = some (.int .i64 pg) := HZ.out.1
  have Z2 := HZ.out.2.1
  have Z3 := HZ.out.2.2.1
  have Z4 := HZ.out.2.2.2.1
  have Z5 := HZ.out.2.2.2.2
  rw [← HW2.out] at Z1 Z2 Z3 Z4 Z5
  go_region_held3 (fun w' => w'.cell? ⟨e.p, 2, none⟩ = some (.int .i64 pg) ∧ w'.cell? ⟨q, 5 + pg * 4, none⟩ = some (.int .u8 d0) ∧ w'.cell? ⟨q, 5 + pg * 4 + 1, none⟩ = some (.int .u8 d1) ∧ w'.cell? ⟨q, 5 + pg * 4 + 2, none⟩ = some (.int .u8 d2) ∧ w'.cell? ⟨q, 5 + pg * 4 + 3, none⟩ = some (.int .u8 d3)) (first | (go_keep; done) | (exact ⟨Z1, Z2, Z3, Z4, Z5⟩)) (fail)
  rw [HW2.out]
  go_wp2_with fail
  refine (land_any tb mb clock s.last s.held _ _ HF.out.1.tab _ HF.out.2).mono ?_
  rintro x w' ⟨rfl, hT, hc⟩
  go_wp2_with fail
  go_end0
  exact ⟨rfl, land_fin HF.out.1 hT hc, (HCW.out.mono fun k _ hk => hk.imp id .inr).then (hc.mono fun k _ hk => .inr (.inl hk))⟩

set_option maxRecDepth 100000 in
set_option maxHeartbeats 400000 in
theorem land_rd (q tb mb clock pg : Nat) (fv : Value) (s : Sta) (w : World) (e : Ent) (d0 d1 d2 d3 : Int) (h : QB w q tb mb clock fv s) (he : e ∈ s.es) (hL : LandB w q tb fv s e pg d0 d1 d2 d3) (_ht : 0 ≤ e.r.tries ∧ e.r.tries ≤ 3) (_hn : 0 ≤ s.now ∧ s.now < 2 ^ 60) (hw : e.r.write = false) (hs : e.r.state = 1) :
    Calls Tryz.prog 72 #[ptr q, ptr e.p, .bool false] w fun x w' => x = .returned (.tuple #[]) ∧
      QB w' q tb mb clock fv { s with es := landE (updE s.es e.r.num fun _ => St.landR s.now s.disk false e.r) ⟨St.landR s.now s.disk false e.r, e.p, e.born⟩, disk := St.landD s.disk false e.r } ∧ Chg (fun k => k = q ∨ k = mb ∨ k = e.p) w w' := by
  have hw8 : IntKind.i64.wrap (e.r.tries + 1) = e.r.tries + 1 := by rw [IntKind.wrap_i64]; omega
  have hrf : St.landR s.now s.disk false e.r = { e.r with tries := e.r.tries + 1, inAir := false, data := ⟨d0, d1, d2, d3⟩, state := 2, alone := e.r.alone, after := e.r.after } := by
    simp [St.landR, hw, hs, hL.dg]
  have hdf : St.landD s.disk false e.r = s.disk := by simp [St.landD, hw]
  rw [hrf, hdf]
  clear hrf hdf
  have c1 := h.c1
  have hR := hL.req
  have a1 := hR.at.c1
  have a2 := hR.at.c2
  have a3 := hR.at.c3
  have a4 := hR.at.c4
  have a5 := hR.at.c5
  have a6 := hR.at.c6
  have a7 := hR.at.c7
  have a8 := hR.at.c8
  have a9 := hR.at.c9
  have a10 := hR.at.c10
  have a11 := hR.at.c11
  have af : ∀ i, w.frozen? ⟨e.p, i, none⟩ = false := fun i => free_of hR
  have qf : ∀ i, w.frozen? ⟨q, i, none⟩ = false := fun i => free_of hL.que
  obtain ⟨k0, k1, k2, k3⟩ := hL.disk
  have hne := h.ne_qp he
  have hne2 := hne.symm
  have hpg := hL.p16
  have hp0 : (0 : Int) ≤ (pg : Int) := by omega
  have hp1 : (pg : Int) < 16 := by omega
  rw [hL.page] at a2
  rw [hs] at a7
  rw [hw] at a1
  obtain ⟨W1, hW1⟩ : ∃ W1, (w.setCell ⟨e.p, 8, none⟩ (.int .i64 (e.r.tries + 1))).setCell ⟨e.p, 11, none⟩ (.bool false) = W1 := ⟨_, rfl⟩
  have hb1 : ReqB W1 e.p { e.r with tries := e.r.tries + 1, inAir := false } := by rw [← hW1]; exact heap_setCell (i := 11) _ (heap_setCell (i := 8) _ hR)
  have hc1 : Chg (fun k => k = q ∨ k = e.p) w W1 := by rw [← hW1]; exact ((chg_set _).then (chg_set _)).mono fun k _ hk => .inr hk
  have hq1 : W1.heap[q]? = some (.cells (qCells tb fv s) 89 (0, 0)) := by
    rw [← hW1, heap_setCell_ne _ hne, heap_setCell_ne _ hne]; exact h.que
  obtain ⟨W2, hW2⟩ : ∃ W2, ((((W1.setCell ⟨e.p, 3, none⟩ (.int .u8 d0)).setCell ⟨e.p, 3 + 1, none⟩ (.int .u8 d1)).setCell ⟨e.p, 3 + 2, none⟩ (.int .u8 d2)).setCell ⟨e.p, 3 + 3, none⟩ (.int .u8 d3)).drew = W2 := ⟨_, rfl⟩
  have hc2 : Chg (fun k => k = e.p) W1 W2 := by rw [← hW2]; exact ((((chg_set _).then (chg_set _)).then (chg_set _)).then (chg_set _)).drew
  have hq2 : W2.heap[q]? = some (.cells (qCells tb fv s) 89 (0, 0)) := (hc2.block _ (lt_of_heap hq1) hne).trans hq1
  have hb2 : ReqB W2 e.p { e.r with tries := e.r.tries + 1, inAir := false, data := ⟨d0, d1, d2, d3⟩ } := by
    rw [← hW2]
    exact heap_setCell (i := 6) _ (heap_setCell (i := 5) _ (heap_setCell (i := 4) _ (heap_setCell (i := 3) _ hb1)))
  have hcw2 : Chg (fun k => k = q ∨ k = e.p) w W2 := hc1.then (hc2.mono fun k _ hk => .inr hk)
  obtain ⟨W3, hW3⟩ : ∃ W3, W2.setCell ⟨e.p, 7, none⟩ (.int .i64 2) = W3 := ⟨_, rfl⟩
  have hc3 : Chg (fun k => k = e.p) W2 W3 := by rw [← hW3]; exact chg_set _
  have hf := land_end (W := W3) h he (r' := { e.r with tries := e.r.tries + 1, inAir := false, data := ⟨d0, d1, d2, d3⟩, state := 2 }) (disk' := s.disk) ⟨rfl, rfl⟩ (by exact h.disk) ((hc3.block _ (lt_of_heap hq2) hne).trans hq2) (by rw [← hW3]; exact heap_setCell (i := 7) _ hb2) (hcw2.then (hc3.mono fun k _ hk => .inr hk))
  have hcw3 : Chg (fun k => k = q ∨ k = e.p) w W3 := hcw2.then (hc3.mono fun k _ hk => .inr hk)
  have b1 : W1.cell? ⟨e.p, 1, none⟩ = some (.bool false) := by have := hb1.at.c1; rw [← hw]; exact this
  have b2 : W1.cell? ⟨e.p, 2, none⟩ = some (.int .i64 pg) := by have := hb1.at.c2; rw [← hL.page]; exact this
  have b3 : W1.cell? ⟨e.p, 3, none⟩ = some (.int .u8 e.r.data.a) := hb1.at.c3
  have b4 : W1.cell? ⟨e.p, 3 + 1, none⟩ = some (.int .u8 e.r.data.b) := hb1.at.c4
  have b5 : W1.cell? ⟨e.p, 3 + 2, none⟩ = some (.int .u8 e.r.data.c) := hb1.at.c5
  have b6 : W1.cell? ⟨e.p, 3 + 3, none⟩ = some (.int .u8 e.r.data.d) := hb1.at.c6
  have bf : ∀ i, W1.frozen? ⟨e.p, i, none⟩ = false := fun i => free_of hb1
  have df : ∀ i, W1.frozen? ⟨q, i, none⟩ = false := fun i => free_of hq1
  have hq10 : W1.heap[q]? = w.heap[q]? := hq1.trans h.que.symm
  have l0 : W1.cell? ⟨q, 5 + pg * 4, none⟩ = some (.int .u8 d0) := (World.cell?_of_block (w := w) (a := ⟨q, 5 + pg * 4, none⟩) hq10).trans k0
  have l1 : W1.cell? ⟨q, 5 + pg * 4 + 1, none⟩ = some (.int .u8 d1) := (World.cell?_of_block (w := w) (a := ⟨q, 5 + pg * 4 + 1, none⟩) hq10).trans k1
  have l2 : W1.cell? ⟨q, 5 + pg * 4 + 2, none⟩ = some (.int .u8 d2) := (World.cell?_of_block (w := w) (a := ⟨q, 5 + pg * 4 + 2, none⟩) hq10).trans k2
  have l3 : W1.cell? ⟨q, 5 + pg * 4 + 3, none⟩ = some (.int .u8 d3) := (World.cell?_of_block (w := w) (a := ⟨q, 5 + pg * 4 + 3, none⟩) hq10).trans k3
  have g7 : W2.cell? ⟨e.p, 7, none⟩ = some (.int .i64 1) := by have := hb2.at.c7; simp only [hs] at this; exact this
  have g8 : W2.cell? ⟨e.p, 8, none⟩ = some (.int .i64 (e.r.tries + 1)) := hb2.at.c8
  have g10 : W2.cell? ⟨e.p, 10, none⟩ = some (.bool e.r.alone) := hb2.at.c10
  have gf : ∀ i, W2.frozen? ⟨e.p, i, none⟩ = false := fun i => free_of hb2
  have m1 : W3.cell? ⟨q, 1, none⟩ = some (ptr tb) := hf.1.c1
  have HF := Lib.hid hf
  have HCW := Lib.hid hcw3
  have HZ : Hid (W2.cell? ⟨e.p, 2, none⟩ = some (.int .i64 pg) ∧ W2.cell? ⟨q, 5 + pg * 4, none⟩ = some (.int .u8 d0) ∧ W2.cell? ⟨q, 5 + pg * 4 + 1, none⟩ = some (.int .u8 d1) ∧ W2.cell? ⟨q, 5 + pg * 4 + 2, none⟩ = some (.int .u8 d2) ∧ W2.cell? ⟨q, 5 + pg * 4 + 3, none⟩ = some (.int .u8 d3)) := Lib.hid (by
    have hqq : W2.heap[q]? = w.heap[q]? := hq2.trans h.que.symm
    have := hb2.at.c2
    refine ⟨by rw [← hL.page]; exact this, (World.cell?_of_block (w := w) (a := ⟨q, 5 + pg * 4, none⟩) hqq).trans k0, (World.cell?_of_block (w := w) (a := ⟨q, 5 + pg * 4 + 1, none⟩) hqq).trans k1, (World.cell?_of_block (w := w) (a := ⟨q, 5 + pg * 4 + 2, none⟩) hqq).trans k2, (World.cell?_of_block (w := w) (a := ⟨q, 5 + pg * 4 + 3, none⟩) hqq).trans k3⟩)
  have HW2 := Lib.hid hW2
  clear hW2
  clear h hR hL he hw hs hb1 hc1 hq1 hq2 hb2 hcw2 hcw3 hf k0 k1 k2 k3 hq10 hc2 hc3
  go_enter Tryz.func72, Tryz.ntmps72
  go_wp2_with fail
  have Z1 : W2.cell? ⟨e.p, 2, none⟩ = some (.int .i64 pg) := HZ.out.1
  have Z2 := HZ.out.2.1
  have Z3 := HZ.out.2.2.1
  have Z4 := HZ.out.2.2.2.1
  have Z5 := HZ.out.2.2.2.2
  rw [← HW2.out] at Z1 Z2 Z3 Z4 Z5
  go_region_held3 (fun w' => w'.cell? ⟨e.p, 2, none⟩ = some (.int .i64 pg) ∧ w'.cell? ⟨q, 5 + pg * 4, none⟩ = some (.int .u8 d0) ∧ w'.cell? ⟨q, 5 + pg * 4 + 1, none⟩ = some (.int .u8 d1) ∧ w'.cell? ⟨q, 5 + pg * 4 + 2, none⟩ = some (.int .u8 d2) ∧ w'.cell? ⟨q, 5 + pg * 4 + 3, none⟩ = some (.int .u8 d3)) (first | (go_keep; done) | (exact ⟨Z1, Z2, Z3, Z4, Z5⟩)) (fail)
  rw [HW2.out]
  go_wp2_with fail
  refine (land_any tb mb clock s.last s.held _ _ HF.out.1.tab _ HF.out.2).mono ?_
  rintro x w' ⟨rfl, hT, hc⟩
  go_wp2_with fail
  go_end0
  exact ⟨rfl, land_fin HF.out.1 hT hc, (HCW.out.mono fun k _ hk => hk.imp id .inr).then (hc.mono fun k _ hk => .inr (.inl hk))⟩

set_option maxRecDepth 100000 in
set_option maxHeartbeats 400000 in
theorem land_fn (q tb mb clock pg : Nat) (fv : Value) (s : Sta) (w : World) (e : Ent) (d0 d1 d2 d3 : Int) (h : QB w q tb mb clock fv s) (he : e ∈ s.es) (hL : LandB w q tb fv s e pg d0 d1 d2 d3) (_ht : 0 ≤ e.r.tries ∧ e.r.tries ≤ 3) (_hn : 0 ≤ s.now ∧ s.now < 2 ^ 60) (hs : e.r.state ≠ 1) :
    Calls Tryz.prog 72 #[ptr q, ptr e.p, .bool true] w fun x w' => x = .returned (.tuple #[]) ∧
      QB w' q tb mb clock fv { s with es := landE (updE s.es e.r.num fun _ => St.landR s.now s.disk true e.r) ⟨St.landR s.now s.disk true e.r, e.p, e.born⟩, disk := St.landD s.disk true e.r } ∧ Chg (fun k => k = q ∨ k = mb ∨ k = e.p) w w' := by
  have hw8 : IntKind.i64.wrap (e.r.tries + 1) = e.r.tries + 1 := by rw [IntKind.wrap_i64]; omega
  have hrf : St.landR s.now s.disk true e.r = { e.r with tries := e.r.tries + 1, inAir := false, data := e.r.data, state := e.r.state, alone := e.r.alone, after := e.r.after } := by
    simp [St.landR, hs]
  have hdf : St.landD s.disk true e.r = s.disk := by simp [St.landD]
  rw [hrf, hdf]
  clear hrf hdf
  have c1 := h.c1
  have hR := hL.req
  have a1 := hR.at.c1
  have a2 := hR.at.c2
  have a3 := hR.at.c3
  have a4 := hR.at.c4
  have a5 := hR.at.c5
  have a6 := hR.at.c6
  have a7 := hR.at.c7
  have a8 := hR.at.c8
  have a9 := hR.at.c9
  have a10 := hR.at.c10
  have a11 := hR.at.c11
  have af : ∀ i, w.frozen? ⟨e.p, i, none⟩ = false := fun i => free_of hR
  have qf : ∀ i, w.frozen? ⟨q, i, none⟩ = false := fun i => free_of hL.que
  obtain ⟨k0, k1, k2, k3⟩ := hL.disk
  have hne := h.ne_qp he
  have hne2 := hne.symm
  have hpg := hL.p16
  have hp0 : (0 : Int) ≤ (pg : Int) := by omega
  have hp1 : (pg : Int) < 16 := by omega
  rw [hL.page] at a2
  have hsb : (e.r.state == 1) = false := by simpa using hs
  obtain ⟨W1, hW1⟩ : ∃ W1, (w.setCell ⟨e.p, 8, none⟩ (.int .i64 (e.r.tries + 1))).setCell ⟨e.p, 11, none⟩ (.bool false) = W1 := ⟨_, rfl⟩
  have hb1 : ReqB W1 e.p { e.r with tries := e.r.tries + 1, inAir := false } := by rw [← hW1]; exact heap_setCell (i := 11) _ (heap_setCell (i := 8) _ hR)
  have hc1 : Chg (fun k => k = q ∨ k = e.p) w W1 := by rw [← hW1]; exact ((chg_set _).then (chg_set _)).mono fun k _ hk => .inr hk
  have hq1 : W1.heap[q]? = some (.cells (qCells tb fv s) 89 (0, 0)) := by
    rw [← hW1, heap_setCell_ne _ hne, heap_setCell_ne _ hne]; exact h.que
  obtain ⟨W2, hW2⟩ : ∃ W2, W1 = W2 := ⟨_, rfl⟩
  have hq2 : W2.heap[q]? = some (.cells (qCells tb fv s) 89 (0, 0)) := by rw [← hW2]; exact hq1
  have hb2 : ReqB W2 e.p { e.r with tries := e.r.tries + 1, inAir := false } := by rw [← hW2]; exact hb1
  have hcw2 : Chg (fun k => k = q ∨ k = e.p) w W2 := by rw [← hW2]; exact hc1
  rw [hW2] at hW1
  obtain ⟨W3, hW3⟩ : ∃ W3, W2 = W3 := ⟨_, rfl⟩
  rw [hW3] at hW1
  rw [hW3] at hq2 hb2 hcw2
  have hf := land_end h he (r' := { e.r with tries := e.r.tries + 1, inAir := false }) (disk' := s.disk) ⟨rfl, rfl⟩ (by exact h.disk) hq2 hb2 hcw2
  have hcw3 := hcw2
  have g7 : W3.cell? ⟨e.p, 7, none⟩ = some (.int .i64 e.r.state) := by have := hb2.at.c7; exact this
  have g8 : W3.cell? ⟨e.p, 8, none⟩ = some (.int .i64 (e.r.tries + 1)) := hb2.at.c8
  have g10 : W3.cell? ⟨e.p, 10, none⟩ = some (.bool e.r.alone) := hb2.at.c10
  have gf : ∀ i, W3.frozen? ⟨e.p, i, none⟩ = false := fun i => free_of hb2
  have m1 : W3.cell? ⟨q, 1, none⟩ = some (ptr tb) := hf.1.c1
  have HF := Lib.hid hf
  have HCW := Lib.hid hcw3
  clear h hR hL he hs hb1 hc1 hq1 hq2 hb2 hcw2 hcw3 hf k0 k1 k2 k3
  go_enter Tryz.func72, Tryz.ntmps72
  go_wp2_with fail
  refine (land_any tb mb clock s.last s.held _ _ HF.out.1.tab _ HF.out.2).mono ?_
  rintro x w' ⟨rfl, hT, hc⟩
  go_wp2_with fail
  go_end0
  exact ⟨rfl, land_fin HF.out.1 hT hc, (HCW.out.mono fun k _ hk => hk.imp id .inr).then (hc.mono fun k _ hk => .inr (.inl hk))⟩

set_option maxRecDepth 100000 in
set_option maxHeartbeats 400000 in
theorem land_ff (q tb mb clock pg : Nat) (fv : Value) (s : Sta) (w : World) (e : Ent) (d0 d1 d2 d3 : Int) (h : QB w q tb mb clock fv s) (he : e ∈ s.es) (hL : LandB w q tb fv s e pg d0 d1 d2 d3) (_ht : 0 ≤ e.r.tries ∧ e.r.tries ≤ 3) (_hn : 0 ≤ s.now ∧ s.now < 2 ^ 60) (hs : e.r.state = 1) (h4 : e.r.tries = 3) :
    Calls Tryz.prog 72 #[ptr q, ptr e.p, .bool true] w fun x w' => x = .returned (.tuple #[]) ∧
      QB w' q tb mb clock fv { s with es := landE (updE s.es e.r.num fun _ => St.landR s.now s.disk true e.r) ⟨St.landR s.now s.disk true e.r, e.p, e.born⟩, disk := St.landD s.disk true e.r } ∧ Chg (fun k => k = q ∨ k = mb ∨ k = e.p) w w' := by
  have hw8 : IntKind.i64.wrap (e.r.tries + 1) = 4 := by rw [IntKind.wrap_i64]; omega
  have hrf : St.landR s.now s.disk true e.r = { e.r with tries := 4, inAir := false, data := e.r.data, state := 3, alone := e.r.alone, after := e.r.after } := by
    simp [St.landR, hs, h4]
  have hdf : St.landD s.disk true e.r = s.disk := by simp [St.landD]
  rw [hrf, hdf]
  clear hrf hdf
  have c1 := h.c1
  have hR := hL.req
  have a1 := hR.at.c1
  have a2 := hR.at.c2
  have a3 := hR.at.c3
  have a4 := hR.at.c4
  have a5 := hR.at.c5
  have a6 := hR.at.c6
  have a7 := hR.at.c7
  have a8 := hR.at.c8
  have a9 := hR.at.c9
  have a10 := hR.at.c10
  have a11 := hR.at.c11
  have af : ∀ i, w.frozen? ⟨e.p, i, none⟩ = false := fun i => free_of hR
  have qf : ∀ i, w.frozen? ⟨q, i, none⟩ = false := fun i => free_of hL.que
  obtain ⟨k0, k1, k2, k3⟩ := hL.disk
  have hne := h.ne_qp he
  have hne2 := hne.symm
  have hpg := hL.p16
  have hp0 : (0 : Int) ≤ (pg : Int) := by omega
  have hp1 : (pg : Int) < 16 := by omega
  rw [hL.page] at a2
  rw [hs] at a7
  obtain ⟨W1, hW1⟩ : ∃ W1, (w.setCell ⟨e.p, 8, none⟩ (.int .i64 (4))).setCell ⟨e.p, 11, none⟩ (.bool false) = W1 := ⟨_, rfl⟩
  have hb1 : ReqB W1 e.p { e.r with tries := 4, inAir := false } := by rw [← hW1]; exact heap_setCell (i := 11) _ (heap_setCell (i := 8) _ hR)
  have hc1 : Chg (fun k => k = q ∨ k = e.p) w W1 := by rw [← hW1]; exact ((chg_set _).then (chg_set _)).mono fun k _ hk => .inr hk
  have hq1 : W1.heap[q]? = some (.cells (qCells tb fv s) 89 (0, 0)) := by
    rw [← hW1, heap_setCell_ne _ hne, heap_setCell_ne _ hne]; exact h.que
  obtain ⟨W2, hW2⟩ : ∃ W2, W1 = W2 := ⟨_, rfl⟩
  have hq2 : W2.heap[q]? = some (.cells (qCells tb fv s) 89 (0, 0)) := by rw [← hW2]; exact hq1
  have hb2 : ReqB W2 e.p { e.r with tries := 4, inAir := false } := by rw [← hW2]; exact hb1
  have hcw2 : Chg (fun k => k = q ∨ k = e.p) w W2 := by rw [← hW2]; exact hc1
  rw [hW2] at hW1
  obtain ⟨W3, hW3⟩ : ∃ W3, W2.setCell ⟨e.p, 7, none⟩ (.int .i64 3) = W3 := ⟨_, rfl⟩
  have hc3 : Chg (fun k => k = e.p) W2 W3 := by rw [← hW3]; exact chg_set _
  have hf := land_end (W := W3) h he (r' := { e.r with tries := 4, inAir := false, state := 3 }) (disk' := s.disk) ⟨rfl, rfl⟩ (by exact h.disk) ((hc3.block _ (lt_of_heap hq2) hne).trans hq2) (by rw [← hW3]; exact heap_setCell (i := 7) _ hb2) (hcw2.then (hc3.mono fun k _ hk => .inr hk))
  have hcw3 : Chg (fun k => k = q ∨ k = e.p) w W3 := hcw2.then (hc3.mono fun k _ hk => .inr hk)
  have g7 : W2.cell? ⟨e.p, 7, none⟩ = some (.int .i64 1) := by have := hb2.at.c7; simp only [hs] at this; exact this
  have g8 : W2.cell? ⟨e.p, 8, none⟩ = some (.int .i64 4) := hb2.at.c8
  have g10 : W2.cell? ⟨e.p, 10, none⟩ = some (.bool e.r.alone) := hb2.at.c10
  have gf : ∀ i, W2.frozen? ⟨e.p, i, none⟩ = false := fun i => free_of hb2
  have m1 : W3.cell? ⟨q, 1, none⟩ = some (ptr tb) := hf.1.c1
  have HF := Lib.hid hf
  have HCW := Lib.hid hcw3
  clear h hR hL he hs hb1 hc1 hq1 hq2 hb2 hcw2 hcw3 hf k0 k1 k2 k3 hc3 h4
  go_enter Tryz.func72, Tryz.ntmps72
  go_wp2_with fail
  refine (land_any tb mb clock s.last s.held _ _ HF.out.1.tab _ HF.out.2).mono ?_
  rintro x w' ⟨rfl, hT, hc⟩
  go_wp2_with fail
  go_end0
  exact ⟨rfl, land_fin HF.out.1 hT hc, (HCW.out.mono fun k _ hk => hk.imp id .inr).then (hc.mono fun k _ hk => .inr (.inl hk))⟩

set_option maxRecDepth 100000 in
set_option maxHeartbeats 400000 in
theorem land_f0 (q tb mb clock pg : Nat) (fv : Value) (s : Sta) (w : World) (e : Ent) (d0 d1 d2 d3 : Int) (h : QB w q tb mb clock fv s) (he : e ∈ s.es) (hL : LandB w q tb fv s e pg d0 d1 d2 d3) (_ht : 0 ≤ e.r.tries ∧ e.r.tries ≤ 3) (_hn : 0 ≤ s.now ∧ s.now < 2 ^ 60) (hs : e.r.state = 1) (h4 : e.r.tries = 0) :
    Calls Tryz.prog 72 #[ptr q, ptr e.p, .bool true] w fun x w' => x = .returned (.tuple #[]) ∧
      QB w' q tb mb clock fv { s with es := landE (updE s.es e.r.num fun _ => St.landR s.now s.disk true e.r) ⟨St.landR s.now s.disk true e.r, e.p, e.born⟩, disk := St.landD s.disk true e.r } ∧ Chg (fun k => k = q ∨ k = mb ∨ k = e.p) w w' := by
  have hw8 : IntKind.i64.wrap (e.r.tries + 1) = 1 := by rw [IntKind.wrap_i64]; omega
  have hrf : St.landR s.now s.disk true e.r = { e.r with tries := 1, inAir := false, data := e.r.data, state := 0, alone := true, after := s.now + 1 } := by
    simp [St.landR, hs, h4]
    try decide
  have hdf : St.landD s.disk true e.r = s.disk := by simp [St.landD]
  rw [hrf, hdf]
  clear hrf hdf
  have c1 := h.c1
  have hR := hL.req
  have a1 := hR.at.c1
  have a2 := hR.at.c2
  have a3 := hR.at.c3
  have a4 := hR.at.c4
  have a5 := hR.at.c5
  have a6 := hR.at.c6
  have a7 := hR.at.c7
  have a8 := hR.at.c8
  have a9 := hR.at.c9
  have a10 := hR.at.c10
  have a11 := hR.at.c11
  have af : ∀ i, w.frozen? ⟨e.p, i, none⟩ = false := fun i => free_of hR
  have qf : ∀ i, w.frozen? ⟨q, i, none⟩ = false := fun i => free_of hL.que
  obtain ⟨k0, k1, k2, k3⟩ := hL.disk
  have hne := h.ne_qp he
  have hne2 := hne.symm
  have hpg := hL.p16
  have hp0 : (0 : Int) ≤ (pg : Int) := by omega
  have hp1 : (pg : Int) < 16 := by omega
  rw [hL.page] at a2
  rw [hs] at a7
  obtain ⟨W1, hW1⟩ : ∃ W1, (w.setCell ⟨e.p, 8, none⟩ (.int .i64 (1))).setCell ⟨e.p, 11, none⟩ (.bool false) = W1 := ⟨_, rfl⟩
  have hb1 : ReqB W1 e.p { e.r with tries := 1, inAir := false } := by rw [← hW1]; exact heap_setCell (i := 11) _ (heap_setCell (i := 8) _ hR)
  have hc1 : Chg (fun k => k = q ∨ k = e.p) w W1 := by rw [← hW1]; exact ((chg_set _).then (chg_set _)).mono fun k _ hk => .inr hk
  have hq1 : W1.heap[q]? = some (.cells (qCells tb fv s) 89 (0, 0)) := by
    rw [← hW1, heap_setCell_ne _ hne, heap_setCell_ne _ hne]; exact h.que
  obtain ⟨W2, hW2⟩ : ∃ W2, W1 = W2 := ⟨_, rfl⟩
  have hq2 : W2.heap[q]? = some (.cells (qCells tb fv s) 89 (0, 0)) := by rw [← hW2]; exact hq1
  have hb2 : ReqB W2 e.p { e.r with tries := 1, inAir := false } := by rw [← hW2]; exact hb1
  have hcw2 : Chg (fun k => k = q ∨ k = e.p) w W2 := by rw [← hW2]; exact hc1
  rw [hW2] at hW1
  obtain ⟨W2b, hW2b⟩ : ∃ W2b, (W2.setCell ⟨e.p, 7, none⟩ (.int .i64 0)).setCell ⟨e.p, 10, none⟩ (.bool true) = W2b := ⟨_, rfl⟩
  have hc2b : Chg (fun k => k = e.p) W2 W2b := by rw [← hW2b]; exact (chg_set _).then (chg_set _)
  have hb2b : ReqB W2b e.p { e.r with tries := 1, inAir := false, state := 0, alone := true } := by rw [← hW2b]; exact heap_setCell (i := 10) _ (heap_setCell (i := 7) _ hb2)
  have hq2b : W2b.heap[q]? = some (.cells (qCells tb fv s) 89 (0, 0)) := (hc2b.block _ (lt_of_heap hq2) hne).trans hq2
  obtain ⟨W3, hW3⟩ : ∃ W3, (W2b.setCell ⟨e.p, 9, none⟩ (.int .i64 (s.now + 1))).drew = W3 := ⟨_, rfl⟩
  have hc3 : Chg (fun k => k = e.p) W2 W3 := by rw [← hW3]; exact (hc2b.then (chg_set _)).drew
  have hwn : IntKind.i64.wrap (s.now + 1) = s.now + 1 := by rw [IntKind.wrap_i64]; omega
  have v3 : W2b.cell? ⟨q, 3, none⟩ = some (.int .i64 s.now) := cell_of hq2b rfl
  have v8 : W2b.cell? ⟨e.p, 8, none⟩ = some (.int .i64 1) := hb2b.at.c8
  have v9 : W2b.cell? ⟨e.p, 9, none⟩ = some (.int .i64 e.r.after) := hb2b.at.c9
  have vf : ∀ i, W2b.frozen? ⟨e.p, i, none⟩ = false := fun i => free_of hb2b
  have hf := land_end (W := W3) h he (r' := { e.r with tries := 1, inAir := false, state := 0, alone := true, after := s.now + 1 }) (disk' := s.disk) ⟨rfl, rfl⟩ h.disk ((hc3.block _ (lt_of_heap hq2) hne).trans hq2) (by rw [← hW3]; exact heap_setCell (i := 9) _ hb2b) (hcw2.then (hc3.mono fun k _ hk => .inr hk))
  have hcw3 : Chg (fun k => k = q ∨ k = e.p) w W3 := hcw2.then (hc3.mono fun k _ hk => .inr hk)
  have g7 : W2.cell? ⟨e.p, 7, none⟩ = some (.int .i64 1) := by have := hb2.at.c7; simp only [hs] at this; exact this
  have g8 : W2.cell? ⟨e.p, 8, none⟩ = some (.int .i64 1) := hb2.at.c8
  have g10 : W2.cell? ⟨e.p, 10, none⟩ = some (.bool e.r.alone) := hb2.at.c10
  have gf : ∀ i, W2.frozen? ⟨e.p, i, none⟩ = false := fun i => free_of hb2
  have m1 : W3.cell? ⟨q, 1, none⟩ = some (ptr tb) := hf.1.c1
  have HF := Lib.hid hf
  have HCW := Lib.hid hcw3
  have HW3 := Lib.hid hW3
  clear hW3
  clear h hR hL he hs hb1 hc1 hq1 hq2 hb2 hcw2 hcw3 hf k0 k1 k2 k3 hc3 hc2b hb2b hq2b h4
  go_enter Tryz.func72, Tryz.ntmps72
  go_wp2_with fail
  have hsh : ∀ W, (Op.shift BinOp.shl IntKind.i64 1 IntKind.i64 (IntKind.i64.wrap 0)).run Tryz.prog W = .ok (.int .i64 1) W := fun W => by kernel_rfl
  have hmin : min (8 : Int) 1 = 1 := by decide
  have Z1 : ∀ v, (W2b.setCell ⟨e.p, 9, none⟩ v).drew.cell? ⟨q, 3, none⟩ = some (.int .i64 s.now) := fun v => (World.cell?_setCell_other _ _ _ _ (by simp)).trans v3
  have Z2 : ∀ v, (W2b.setCell ⟨e.p, 9, none⟩ v).drew.cell? ⟨e.p, 8, none⟩ = some (.int .i64 1) := fun v => (World.cell?_setCell_other _ _ _ _ (by simp)).trans v8
  go_region_held3 (fun w' => w'.cell? ⟨q, 3, none⟩ = some (.int .i64 s.now) ∧ w'.cell? ⟨e.p, 8, none⟩ = some (.int .i64 1)) (first | (go_keep; done) | (exact ⟨Z1 _, Z2 _⟩)) (fail)
  rw [HW3.out]
  go_wp2_with fail
  refine (land_any tb mb clock s.last s.held _ _ HF.out.1.tab _ HF.out.2).mono ?_
  rintro x w' ⟨rfl, hT, hc⟩
  go_wp2_with fail
  go_end0
  exact ⟨rfl, land_fin HF.out.1 hT hc, (HCW.out.mono fun k _ hk => hk.imp id .inr).then (hc.mono fun k _ hk => .inr (.inl hk))⟩

set_option maxRecDepth 100000 in
set_option maxHeartbeats 400000 in
theorem land_f1 (q tb mb clock pg : Nat) (fv : Value) (s : Sta) (w : World) (e : Ent) (d0 d1 d2 d3 : Int) (h : QB w q tb mb clock fv s) (he : e ∈ s.es) (hL : LandB w q tb fv s e pg d0 d1 d2 d3) (_ht : 0 ≤ e.r.tries ∧ e.r.tries ≤ 3) (_hn : 0 ≤ s.now ∧ s.now < 2 ^ 60) (hs : e.r.state = 1) (h4 : e.r.tries = 1) :
    Calls Tryz.prog 72 #[ptr q, ptr e.p, .bool true] w fun x w' => x = .returned (.tuple #[]) ∧
      QB w' q tb mb clock fv { s with es := landE (updE s.es e.r.num fun _ => St.landR s.now s.disk true e.r) ⟨St.landR s.now s.disk true e.r, e.p, e.born⟩, disk := St.landD s.disk true e.r } ∧ Chg (fun k => k = q ∨ k = mb ∨ k = e.p) w w' := by
  have hw8 : IntKind.i64.wrap (e.r.tries + 1) = 2 := by rw [IntKind.wrap_i64]; omega
  have hrf : St.landR s.now s.disk true e.r = { e.r with tries := 2, inAir := false, data := e.r.data, state := 0, alone := true, after := s.now + 2 } := by
    simp [St.landR, hs, h4]
    try decide
  have hdf : St.landD s.disk true e.r = s.disk := by simp [St.landD]
  rw [hrf, hdf]
  clear hrf hdf
  have c1 := h.c1
  have hR := hL.req
  have a1 := hR.at.c1
  have a2 := hR.at.c2
  have a3 := hR.at.c3
  have a4 := hR.at.c4
  have a5 := hR.at.c5
  have a6 := hR.at.c6
  have a7 := hR.at.c7
  have a8 := hR.at.c8
  have a9 := hR.at.c9
  have a10 := hR.at.c10
  have a11 := hR.at.c11
  have af : ∀ i, w.frozen? ⟨e.p, i, none⟩ = false := fun i => free_of hR
  have qf : ∀ i, w.frozen? ⟨q, i, none⟩ = false := fun i => free_of hL.que
  obtain ⟨k0, k1, k2, k3⟩ := hL.disk
  have hne := h.ne_qp he
  have hne2 := hne.symm
  have hpg := hL.p16
  have hp0 : (0 : Int) ≤ (pg : Int) := by omega
  have hp1 : (pg : Int) < 16 := by omega
  rw [hL.page] at a2
  rw [hs] at a7
  obtain ⟨W1, hW1⟩ : ∃ W1, (w.setCell ⟨e.p, 8, none⟩ (.int .i64 (2))).setCell ⟨e.p, 11, none⟩ (.bool false) = W1 := ⟨_, rfl⟩
  have hb1 : ReqB W1 e.p { e.r with tries := 2, inAir := false } := by rw [← hW1]; exact heap_setCell (i := 11) _ (heap_setCell (i := 8) _ hR)
  have hc1 : Chg (fun k => k = q ∨ k = e.p) w W1 := by rw [← hW1]; exact ((chg_set _).then (chg_set _)).mono fun k _ hk => .inr hk
  have hq1 : W1.heap[q]? = some (.cells (qCells tb fv s) 89 (0, 0)) := by
    rw [← hW1, heap_setCell_ne _ hne, heap_setCell_ne _ hne]; exact h.que
  obtain ⟨W2, hW2⟩ : ∃ W2, W1 = W2 := ⟨_, rfl⟩
  have hq2 : W2.heap[q]? = some (.cells (qCells tb fv s) 89 (0, 0)) := by rw [← hW2]; exact hq1
  have hb2 : ReqB W2 e.p { e.r with tries := 2, inAir := false } := by rw [← hW2]; exact hb1
  have hcw2 : Chg (fun k => k = q ∨ k = e.p) w W2 := by rw [← hW2]; exact hc1
  rw [hW2] at hW1
  obtain ⟨W2b, hW2b⟩ : ∃ W2b, (W2.setCell ⟨e.p, 7, none⟩ (.int .i64 0)).setCell ⟨e.p, 10, none⟩ (.bool true) = W2b := ⟨_, rfl⟩
  have hc2b : Chg (fun k => k = e.p) W2 W2b := by rw [← hW2b]; exact (chg_set _).then (chg_set _)
  have hb2b : ReqB W2b e.p { e.r with tries := 2, inAir := false, state := 0, alone := true } := by rw [← hW2b]; exact heap_setCell (i := 10) _ (heap_setCell (i := 7) _ hb2)
  have hq2b : W2b.heap[q]? = some (.cells (qCells tb fv s) 89 (0, 0)) := (hc2b.block _ (lt_of_heap hq2) hne).trans hq2
  obtain ⟨W3, hW3⟩ : ∃ W3, (W2b.setCell ⟨e.p, 9, none⟩ (.int .i64 (s.now + 2))).drew = W3 := ⟨_, rfl⟩
  have hc3 : Chg (fun k => k = e.p) W2 W3 := by rw [← hW3]; exact (hc2b.then (chg_set _)).drew
  have hwn : IntKind.i64.wrap (s.now + 2) = s.now + 2 := by rw [IntKind.wrap_i64]; omega
  have v3 : W2b.cell? ⟨q, 3, none⟩ = some (.int .i64 s.now) := cell_of hq2b rfl
  have v8 : W2b.cell? ⟨e.p, 8, none⟩ = some (.int .i64 2) := hb2b.at.c8
  have v9 : W2b.cell? ⟨e.p, 9, none⟩ = some (.int .i64 e.r.after) := hb2b.at.c9
  have vf : ∀ i, W2b.frozen? ⟨e.p, i, none⟩ = false := fun i => free_of hb2b
  have hf := land_end (W := W3) h he (r' := { e.r with tries := 2, inAir := false, state := 0, alone := true, after := s.now + 2 }) (disk' := s.disk) ⟨rfl, rfl⟩ h.disk ((hc3.block _ (lt_of_heap hq2) hne).trans hq2) (by rw [← hW3]; exact heap_setCell (i := 9) _ hb2b) (hcw2.then (hc3.mono fun k _ hk => .inr hk))
  have hcw3 : Chg (fun k => k = q ∨ k = e.p) w W3 := hcw2.then (hc3.mono fun k _ hk => .inr hk)
  have g7 : W2.cell? ⟨e.p, 7, none⟩ = some (.int .i64 1) := by have := hb2.at.c7; simp only [hs] at this; exact this
  have g8 : W2.cell? ⟨e.p, 8, none⟩ = some (.int .i64 2) := hb2.at.c8
  have g10 : W2.cell? ⟨e.p, 10, none⟩ = some (.bool e.r.alone) := hb2.at.c10
  have gf : ∀ i, W2.frozen? ⟨e.p, i, none⟩ = false := fun i => free_of hb2
  have m1 : W3.cell? ⟨q, 1, none⟩ = some (ptr tb) := hf.1.c1
  have HF := Lib.hid hf
  have HCW := Lib.hid hcw3
  have HW3 := Lib.hid hW3
  clear hW3
  clear h hR hL he hs hb1 hc1 hq1 hq2 hb2 hcw2 hcw3 hf k0 k1 k2 k3 hc3 hc2b hb2b hq2b h4
  go_enter Tryz.func72, Tryz.ntmps72
  go_wp2_with fail
  have hsh : ∀ W, (Op.shift BinOp.shl IntKind.i64 1 IntKind.i64 (IntKind.i64.wrap 1)).run Tryz.prog W = .ok (.int .i64 2) W := fun W => by kernel_rfl
  have hmin : min (8 : Int) 2 = 2 := by decide
  have Z1 : ∀ v, (W2b.setCell ⟨e.p, 9, none⟩ v).drew.cell? ⟨q, 3, none⟩ = some (.int .i64 s.now) := fun v => (World.cell?_setCell_other _ _ _ _ (by simp)).trans v3
  have Z2 : ∀ v, (W2b.setCell ⟨e.p, 9, none⟩ v).drew.cell? ⟨e.p, 8, none⟩ = some (.int .i64 2) := fun v => (World.cell?_setCell_other _ _ _ _ (by simp)).trans v8
  go_region_held3 (fun w' => w'.cell? ⟨q, 3, none⟩ = some (.int .i64 s.now) ∧ w'.cell? ⟨e.p, 8, none⟩ = some (.int .i64 2)) (first | (go_keep; done) | (exact ⟨Z1 _, Z2 _⟩)) (fail)
  rw [HW3.out]
  go_wp2_with fail
  refine (land_any tb mb clock s.last s.held _ _ HF.out.1.tab _ HF.out.2).mono ?_
  rintro x w' ⟨rfl, hT, hc⟩
  go_wp2_with fail
  go_end0
  exact ⟨rfl, land_fin HF.out.1 hT hc, (HCW.out.mono fun k _ hk => hk.imp id .inr).then (hc.mono fun k _ hk => .inr (.inl hk))⟩

set_option maxRecDepth 100000 in
set_option maxHeartbeats 400000 in
theorem land_f2 (q tb mb clock pg : Nat) (fv : Value) (s : Sta) (w : World) (e : Ent) (d0 d1 d2 d3 : Int) (h : QB w q tb mb clock fv s) (he : e ∈ s.es) (hL : LandB w q tb fv s e pg d0 d1 d2 d3) (_ht : 0 ≤ e.r.tries ∧ e.r.tries ≤ 3) (_hn : 0 ≤ s.now ∧ s.now < 2 ^ 60) (hs : e.r.state = 1) (h4 : e.r.tries = 2) :
    Calls Tryz.prog 72 #[ptr q, ptr e.p, .bool true] w fun x w' => x = .returned (.tuple #[]) ∧
      QB w' q tb mb clock fv { s with es := landE (updE s.es e.r.num fun _ => St.landR s.now s.disk true e.r) ⟨St.landR s.now s.disk true e.r, e.p, e.born⟩, disk := St.landD s.disk true e.r } ∧ Chg (fun k => k = q ∨ k = mb ∨ k = e.p) w w' := by
  have hw8 : IntKind.i64.wrap (e.r.tries + 1) = 3 := by rw [IntKind.wrap_i64]; omega
  have hrf : St.landR s.now s.disk true e.r = { e.r with tries := 3, inAir := false, data := e.r.data, state := 0, alone := true, after := s.now + 4 } := by
    simp [St.landR, hs, h4]
    try decide
  have hdf : St.landD s.disk true e.r = s.disk := by simp [St.landD]
  rw [hrf, hdf]
  clear hrf hdf
  have c1 := h.c1
  have hR := hL.req
  have a1 := hR.at.c1
  have a2 := hR.at.c2
  have a3 := hR.at.c3
  have a4 := hR.at.c4
  have a5 := hR.at.c5
  have a6 := hR.at.c6
  have a7 := hR.at.c7
  have a8 := hR.at.c8
  have a9 := hR.at.c9
  have a10 := hR.at.c10
  have a11 := hR.at.c11
  have af : ∀ i, w.frozen? ⟨e.p, i, none⟩ = false := fun i => free_of hR
  have qf : ∀ i, w.frozen? ⟨q, i, none⟩ = false := fun i => free_of hL.que
  obtain ⟨k0, k1, k2, k3⟩ := hL.disk
  have hne := h.ne_qp he
  have hne2 := hne.symm
  have hpg := hL.p16
  have hp0 : (0 : Int) ≤ (pg : Int) := by omega
  have hp1 : (pg : Int) < 16 := by omega
  rw [hL.page] at a2
  rw [hs] at a7
  obtain ⟨W1, hW1⟩ : ∃ W1, (w.setCell ⟨e.p, 8, none⟩ (.int .i64 (3))).setCell ⟨e.p, 11, none⟩ (.bool false) = W1 := ⟨_, rfl⟩
  have hb1 : ReqB W1 e.p { e.r with tries := 3, inAir := false } := by rw [← hW1]; exact heap_setCell (i := 11) _ (heap_setCell (i := 8) _ hR)
  have hc1 : Chg (fun k => k = q ∨ k = e.p) w W1 := by rw [← hW1]; exact ((chg_set _).then (chg_set _)).mono fun k _ hk => .inr hk
  have hq1 : W1.heap[q]? = some (.cells (qCells tb fv s) 89 (0, 0)) := by
    rw [← hW1, heap_setCell_ne _ hne, heap_setCell_ne _ hne]; exact h.que
  obtain ⟨W2, hW2⟩ : ∃ W2, W1 = W2 := ⟨_, rfl⟩
  have hq2 : W2.heap[q]? = some (.cells (qCells tb fv s) 89 (0, 0)) := by rw [← hW2]; exact hq1
  have hb2 : ReqB W2 e.p { e.r with tries := 3, inAir := false } := by rw [← hW2]; exact hb1
  have hcw2 : Chg (fun k => k = q ∨ k = e.p) w W2 := by rw [← hW2]; exact hc1
  rw [hW2] at hW1
  obtain ⟨W2b, hW2b⟩ : ∃ W2b, (W2.setCell ⟨e.p, 7, none⟩ (.int .i64 0)).setCell ⟨e.p, 10, none⟩ (.bool true) = W2b := ⟨_, rfl⟩
  have hc2b : Chg (fun k => k = e.p) W2 W2b := by rw [← hW2b]; exact (chg_set _).then (chg_set _)
  have hb2b : ReqB W2b e.p { e.r with tries := 3, inAir := false, state := 0, alone := true } := by rw [← hW2b]; exact heap_setCell (i := 10) _ (heap_setCell (i := 7) _ hb2)
  have hq2b : W2b.heap[q]? = some (.cells (qCells tb fv s) 89 (0, 0)) := (hc2b.block _ (lt_of_heap hq2) hne).trans hq2
  obtain ⟨W3, hW3⟩ : ∃ W3, (W2b.setCell ⟨e.p, 9, none⟩ (.int .i64 (s.now + 4))).drew = W3 := ⟨_, rfl⟩
  have hc3 : Chg (fun k => k = e.p) W2 W3 := by rw [← hW3]; exact (hc2b.then (chg_set _)).drew
  have hwn : IntKind.i64.wrap (s.now + 4) = s.now + 4 := by rw [IntKind.wrap_i64]; omega
  have v3 : W2b.cell? ⟨q, 3, none⟩ = some (.int .i64 s.now) := cell_of hq2b rfl
  have v8 : W2b.cell? ⟨e.p, 8, none⟩ = some (.int .i64 3) := hb2b.at.c8
  have v9 : W2b.cell? ⟨e.p, 9, none⟩ = some (.int .i64 e.r.after) := hb2b.at.c9
  have vf : ∀ i, W2b.frozen? ⟨e.p, i, none⟩ = false := fun i => free_of hb2b
  have hf := land_end (W := W3) h he (r' := { e.r with tries := 3, inAir := false, state := 0, alone := true, after := s.now + 4 }) (disk' := s.disk) ⟨rfl, rfl⟩ h.disk ((hc3.block _ (lt_of_heap hq2) hne).trans hq2) (by rw [← hW3]; exact heap_setCell (i := 9) _ hb2b) (hcw2.then (hc3.mono fun k _ hk => .inr hk))
  have hcw3 : Chg (fun k => k = q ∨ k = e.p) w W3 := hcw2.then (hc3.mono fun k _ hk => .inr hk)
  have g7 : W2.cell? ⟨e.p, 7, none⟩ = some (.int .i64 1) := by have := hb2.at.c7; simp only [hs] at this; exact this
  have g8 : W2.cell? ⟨e.p, 8, none⟩ = some (.int .i64 3) := hb2.at.c8
  have g10 : W2.cell? ⟨e.p, 10, none⟩ = some (.bool e.r.alone) := hb2.at.c10
  have gf : ∀ i, W2.frozen? ⟨e.p, i, none⟩ = false := fun i => free_of hb2
  have m1 : W3.cell? ⟨q, 1, none⟩ = some (ptr tb) := hf.1.c1
  have HF := Lib.hid hf
  have HCW := Lib.hid hcw3
  have HW3 := Lib.hid hW3
  clear hW3
  clear h hR hL he hs hb1 hc1 hq1 hq2 hb2 hcw2 hcw3 hf k0 k1 k2 k3 hc3 hc2b hb2b hq2b h4
  go_enter Tryz.func72, Tryz.ntmps72
  go_wp2_with fail
  have hsh : ∀ W, (Op.shift BinOp.shl IntKind.i64 1 IntKind.i64 (IntKind.i64.wrap 2)).run Tryz.prog W = .ok (.int .i64 4) W := fun W => by kernel_rfl
  have hmin : min (8 : Int) 4 = 4 := by decide
  have Z1 : ∀ v, (W2b.setCell ⟨e.p, 9, none⟩ v).drew.cell? ⟨q, 3, none⟩ = some (.int .i64 s.now) := fun v => (World.cell?_setCell_other _ _ _ _ (by simp)).trans v3
  have Z2 : ∀ v, (W2b.setCell ⟨e.p, 9, none⟩ v).drew.cell? ⟨e.p, 8, none⟩ = some (.int .i64 3) := fun v => (World.cell?_setCell_other _ _ _ _ (by simp)).trans v8
  go_region_held3 (fun w' => w'.cell? ⟨q, 3, none⟩ = some (.int .i64 s.now) ∧ w'.cell? ⟨e.p, 8, none⟩ = some (.int .i64 3)) (first | (go_keep; done) | (exact ⟨Z1 _, Z2 _⟩)) (fail)
  rw [HW3.out]
  go_wp2_with fail
  refine (land_any tb mb clock s.last s.held _ _ HF.out.1.tab _ HF.out.2).mono ?_
  rintro x w' ⟨rfl, hT, hc⟩
  go_wp2_with fail
  go_end0
  exact ⟨rfl, land_fin HF.out.1 hT hc, (HCW.out.mono fun k _ hk => hk.imp id .inr).then (hc.mono fun k _ hk => .inr (.inl hk))⟩

end Go.Proofs.YticobikhndlejaaGreatDoor
