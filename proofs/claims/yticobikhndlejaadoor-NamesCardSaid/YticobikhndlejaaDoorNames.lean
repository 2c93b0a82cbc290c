/- The law Names: its walk. -/
import Derived.Test.YticobikhndlejaaDoorTold2
namespace Go.Proofs.YticobikhndlejaaDoor
open Go.RowKit Go.Extern.Stop Go.Stop Go.Extern

set_option maxRecDepth 100000 in
theorem pTold0 (w : World) : Calls Tryd.prog 7 #[.int .i64 0] w fun e w' => e = .returned (plErr 0 (-1) 0) ∧ Below w.heap.size w w' := by
  go_enter Tryd.func7, Tryd.ntmps7
  go_wp2_with fail
  refine (told_nil _).mono ?_
  rintro e w1 ⟨rfl, hb⟩
  simp only [World.size_alloc] at hb
  obtain ⟨hc, hf, hlt, hB⟩ := res_facts hb
  have c0 := hc 0; have c1 := hc 1; have c2 := hc 2; have c3 := hc 3
  have f0 := hf 0; have f1 := hf 1; have f2 := hf 2; have f3 := hf 3
  simp at c0 c1 c2 c3
  clear hc hf hb
  go_wp2
  refine bodyPost_ret (v := plErr 0 (-1) 0) ?_ rfl ⟨rfl, ?_⟩
  · simp [results, Tryd.results7, go_sem, c0, c1, c2, c3]
  · go_grown
set_option maxRecDepth 100000 in
theorem pTold1 (w : World) (hg : ErrVar w) : Calls Tryd.prog 7 #[.int .i64 1] w fun e w' => e = .returned (plErr 4 (-1) 0) ∧ Below w.heap.size w w' := by
  have HG := Lib.hid hg
  clear hg
  go_enter Tryd.func7, Tryd.ntmps7
  go_wp2_with fail
  refine (told_K 4 _ (by omega) ?_).mono ?_
  · exact HG.out.alloc _
  rintro e w1 ⟨rfl, hb⟩
  simp only [World.size_alloc] at hb
  obtain ⟨hc, hf, hlt, hB⟩ := res_facts hb
  have c0 := hc 0; have c1 := hc 1; have c2 := hc 2; have c3 := hc 3
  have f0 := hf 0; have f1 := hf 1; have f2 := hf 2; have f3 := hf 3
  simp at c0 c1 c2 c3
  clear hc hf hb
  go_wp2
  refine bodyPost_ret (v := plErr 4 (-1) 0) ?_ rfl ⟨rfl, ?_⟩
  · simp [results, Tryd.results7, go_sem, c0, c1, c2, c3]
  · go_grown
set_option maxRecDepth 100000 in
theorem pTold2 (w : World) (hg : ErrVar w) : Calls Tryd.prog 7 #[.int .i64 2] w fun e w' => e = .returned (plErr 7 7 4) ∧ Below w.heap.size w w' := by
  have HG := Lib.hid hg
  clear hg
  go_enter Tryd.func7, Tryd.ntmps7
  go_wp2_with fail
  refine (told_R (w.heap.size + 1) 7 4 7 _ (by omega) ?_ ?_).mono ?_
  · exact (HG.out.alloc _).alloc _
  · exact ⟨cell_new (by simp), cell_new (by simp), cell_new (by simp)⟩
  rintro e w1 ⟨rfl, hb⟩
  have hb' : Below (w.heap.size + 1) (w.alloc (.cells #[.int .i64 0, .int .i64 0, .int .i64 0, .bool false] 24)) w1 :=
    ((Below.refl _ _).alloc (by simp) _).trans (hb.mono (by simp))
  obtain ⟨hc, hf, hlt, hB⟩ := res_facts hb'
  have c0 := hc 0; have c1 := hc 1; have c2 := hc 2; have c3 := hc 3
  have f0 := hf 0; have f1 := hf 1; have f2 := hf 2; have f3 := hf 3
  simp at c0 c1 c2 c3
  clear hc hf hb hb'
  go_wp2
  refine bodyPost_ret (v := plErr 7 7 4) ?_ rfl ⟨rfl, ?_⟩
  · simp [results, Tryd.results7, go_sem, c0, c1, c2, c3]
  · go_grown

theorem Tryd.eqPl0 (w : World) : (binOp BinOp.eql 24 (plErr 0 (-1) 0) (plErr 0 (-1) 0)).run Tryd.prog w = .ok (.bool true) w := by kernel_rfl
theorem Tryd.eqPl1 (w : World) : (binOp BinOp.eql 24 (plErr 4 (-1) 0) (plErr 4 (-1) 0)).run Tryd.prog w = .ok (.bool true) w := by kernel_rfl
theorem Tryd.eqPl2 (w : World) : (binOp BinOp.eql 24 (plErr 7 7 4) (plErr 7 7 4)).run Tryd.prog w = .ok (.bool true) w := by kernel_rfl
set_option maxRecDepth 100000 in
theorem names_true (w : World) (hg : ErrVar w) : Calls Tryd.prog 3 #[] w fun e w' => e = .returned (.bool true) ∧ Below w.heap.size w w' := by
  have HG := Lib.hid hg
  clear hg
  have q0 := Tryd.eqPl0
  have q1 := Tryd.eqPl1
  have q2 := Tryd.eqPl2
  go_enter Tryd.func3, Tryd.ntmps3
  go_wp2_with fail
  refine (pTold0 _).mono ?_
  rintro e w1 ⟨rfl, hb1⟩
  go_wp2_with fail
  refine (pTold1 _ ?_).mono ?_
  · exact (HG.out.chg (chgB hb1 (fun _ => False)) (fun h => h)).alloc _
  rintro e w2 ⟨rfl, hb2⟩
  have HG2 : ErrVar w2 := ((HG.out.chg (chgB hb1 (fun _ => False)) (fun h => h)).alloc _).chg (chgB hb2 (fun _ => False)) (fun h => h)
  have HG2 := Lib.hid HG2
  simp only [World.size_alloc] at hb2
  obtain ⟨hc1, _, hlt1, hB2⟩ := res_facts hb2
  have a0 := hc1 0; have a1 := hc1 1; have a2 := hc1 2; have a3 := hc1 3
  simp at a0 a1 a2 a3
  clear hc1 hb2
  go_wp2_with fail
  refine (pTold2 _ ?_).mono ?_
  · exact HG2.out.alloc _
  rintro e w3 ⟨rfl, hb3⟩
  simp only [World.size_alloc] at hb3
  obtain ⟨hc2, _, hlt2, hB3⟩ := res_facts hb3
  have b0 := hc2 0; have b1 := hc2 1; have b2 := hc2 2; have b3 := hc2 3
  simp at b0 b1 b2 b3
  have d0 := (hB3.cell (p := ⟨w1.heap.size, 0, none⟩) hlt1).trans a0
  have d1 := (hB3.cell (p := ⟨w1.heap.size, 1, none⟩) hlt1).trans a1
  have d2 := (hB3.cell (p := ⟨w1.heap.size, 2, none⟩) hlt1).trans a2
  have d3 := (hB3.cell (p := ⟨w1.heap.size, 3, none⟩) hlt1).trans a3
  have hlt3 : w1.heap.size < w3.heap.size := by omega
  clear a0 a1 a2 a3 hc2 hb3
  go_wp2
  go_ret
  refine ⟨rfl, ?_⟩
  have e1 : w.heap.size ≤ w1.heap.size := hb1.size
  exact (((hb1.trans (hB2.mono e1)).trans (hB3.mono (by omega))).alloc (by omega) _)
end Go.Proofs.YticobikhndlejaaDoor
