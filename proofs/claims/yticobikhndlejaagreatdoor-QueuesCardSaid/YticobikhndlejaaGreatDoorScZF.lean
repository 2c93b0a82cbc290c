/- The law: asked, the write branch. -/
import Derived.Test.YticobikhndlejaaGreatDoorScZE
import Derived.BigQuiet
import Derived.StillTailTactics
import Derived.Test.YticobikhndlejaaGreatDoorScH
namespace Go.Proofs.YticobikhndlejaaGreatDoor
open Go.RowKit Go.Shelf Go.Lib

/-- A text's bytes as cells. -/
def strC (S : ByteArray) : List Value := S.data.toList.map fun b => .int .u8 b.toNat
theorem strC_len (S : ByteArray) : (strC S).length = S.size := by
  unfold strC
  rw [List.length_map, Array.length_toList]
  rfl
theorem mkU8 (n : Nat) (hn : n ≤ 1000000) (w : World) : (Instr.makeSlice 41 (.int .i64 ((n : Int) + 1)) (.int .i64 ((n : Int) + 1))).run Tryz.prog w = .ok (.slice (some ⟨w.heap.size, 0, none⟩) (n + 1) (n + 1)) (w.alloc (.cells (madeCells #[.int .u8 0] (n + 1)) 5)) := by
  obtain ⟨i0, hi, hz0, hz1, hz2⟩ := info_parts Tryz.infoB
  have h := run_make (P := Tryz.prog) w 41 5 i0 (.int .u8 0) Tryz.underlying41 hi hz0 .i64 .i64 ((n : Int) + 1) ((n : Int) + 1) (by omega) (Int.le_refl _) (by rw [hz2]; omega) (by omega)
  rw [h, hz1]
  have e : ((n : Int) + 1).toNat = n + 1 := by omega
  rw [e]
  simp [Value.cells]
theorem cpS (w : World) (S : ByteArray) (g n cap : Nat) (cur : Array Value) (t : TypeId) (hg : w.heap[g]? = some (.cells cur t (0, 0))) (hn : S.size ≤ n) (hc : n ≤ cur.size) (ty : TypeId) :
    (Builtin.copy_ #[41, 9] ty #[.slice (some ⟨g, 0, none⟩) n cap, .string S]).run Tryz.prog w = .ok (.int .i64 S.size) (w.setRow g (strC S ++ cur.toList.drop S.size).toArray) := by
  obtain ⟨i0, hi, hz0, hz1, hz2⟩ := info_parts Tryz.infoB
  have hst := run_storeCells_at Tryz.prog g 0 t (strC S) 0 cur w hg (by rw [strC_len]; omega) (by
    intro v hv
    unfold strC at hv
    obtain ⟨b, _, rfl⟩ := List.mem_map.1 hv
    rfl)
  have e1 : List.take S.size (S.data.toList.map fun b => Value.int .u8 b.toNat) = strC S := by
    unfold strC
    exact List.take_of_length_le (by rw [List.length_map, Array.length_toList]; exact Nat.le_refl _)
  have e2 : Nat.min S.size n = S.size := Nat.min_eq_left hn
  rw [strC_len] at hst
  simp only [Nat.zero_add, Nat.add_zero, List.take_zero, List.nil_append] at hst
  simp [Builtin.copy_, run_underlying Tryz.underlying41, Builtin.lenOf, Builtin.firstCells, sizeOf, typeInfo, hi, e2, e1, hst, goInt]
theorem cvS (w : World) (S : ByteArray) (g cap : Nat) (cur : Array Value) (t : TypeId) (fr : Nat × Nat) (hg : w.heap[g]? = some (.cells cur t fr)) (hc : cur.toList.take S.size = strC S) :
    (convert 41 9 (.slice (some ⟨g, 0, none⟩) S.size cap)).run Tryz.prog w = .ok (.string S) w := by
  obtain ⟨l, hl⟩ : ∃ l : List Int, S.data.toList.map (fun b => (b.toNat : Int)) = l := ⟨_, rfl⟩
  have hlen : l.length = S.size := by rw [← hl, List.length_map, Array.length_toList]; rfl
  have hS : strOfNums l = S := by
    apply ba_ext
    rw [strOfNums_data, ← hl, List.map_map]
    conv => rhs; rw [← List.map_id S.data.toList]
    refine List.map_congr_left fun b _ => ?_
    simp
  have hcl : strC S = l.map fun b => Value.int .u8 b := by rw [← hl, List.map_map]; rfl
  rw [← hS]
  have e3 : S.size = l.length := hlen.symm
  rw [hS, e3]
  conv => rhs; rw [← hS]
  refine run_convert_bytes_arg (P := Tryz.prog) w 41 5 Tryz.underlying41 Tryz.underlying5 g 0 l.length cap l rfl (fun i hi => ?_) 9 Tryz.underlying9
  rw [Nat.zero_add]
  refine cell_of hg ?_
  have h2 : (cur.toList.take S.size)[i]? = some (.int .u8 l[i]) := by
    rw [hc, hcl, List.getElem?_map, List.getElem?_eq_getElem hi]
    rfl
  rw [List.getElem?_take_of_lt (by omega)] at h2
  have h3 : l[i]?.getD 0 = l[i] := by rw [List.getElem?_eq_getElem hi]; rfl
  simpa [h3] using h2
theorem datS {w : World} {S : ByteArray} (h4 : S.size = 4) {g cap : Nat} {cur : Array Value} {t : TypeId} {fr : Nat × Nat} (hg : w.heap[g]? = some (.cells cur t fr)) (hc : cur.toList.take 4 = strC S) : DatV w (.slice (some ⟨g, 0, none⟩) 4 cap) (b4of S) := by
  have hS : strC S = [.int .u8 (b4of S).a, .int .u8 (b4of S).b, .int .u8 (b4of S).c, .int .u8 (b4of S).d] := by
    obtain ⟨⟨l⟩⟩ := S
    match l, h4 with
    | [a, b, c, d], _ => simp [strC, b4of]
  rw [hS] at hc
  have e : ∀ i v, [Value.int .u8 (b4of S).a, .int .u8 (b4of S).b, .int .u8 (b4of S).c, .int .u8 (b4of S).d][i]? = some v → w.cell? ⟨g, i, none⟩ = some v := fun i v hv => by
    refine cell_of hg ?_
    have hi : i < 4 := (List.getElem?_eq_some_iff.1 hv).1
    rw [← hc, List.getElem?_take_of_lt hi] at hv
    simpa using hv
  exact .four _ _ _ _ (e 0 _ rfl) (e 1 _ rfl) (e 2 _ rfl) (e 3 _ rfl)
/-- What stands behind the write. -/
structure AskR (wb w' : World) (wl : Nat) (ow1 : Nat → Lab) (qv bv iv : Value) (ps : List LP) (bs is : List Value) (g n px pm : Nat) (A B C : Int) (S : ByteArray) : Prop where
  lb : LB wb w' wl ow1 qv bv iv ps bs is
  gg : w'.heap[g]? = some (.cells (strC S ++ [Value.int .u8 77]).toArray 5 (0, 0))
  pr : w'.heap[n]? = some (.cells #[ptr px, ptr pm] 114 (0, 0))
  op : w'.heap[n + 1]? = some (.cells #[.int .i64 3, .int .i64 A, .int .i64 B, .int .i64 C, .string S] 73 (0, 0))
  lg : ow1 g = .loose
  lp : ow1 n = .loose
  lo : ow1 (n + 1) = .loose
theorem AskR.below {wb w' W : World} {wl : Nat} {ow1 : Nat → Lab} {qv bv iv : Value} {ps : List LP} {bs is : List Value} {g n px pm : Nat} {A B C : Int} {S : ByteArray} (h : AskR wb w' wl ow1 qv bv iv ps bs is g n px pm A B C S) (hb : Below w'.heap.size w' W) : AskR wb W wl ow1 qv bv iv ps bs is g n px pm A B C S :=
  ⟨h.lb.below hb, (hb.block _ (lt_of_heap h.gg)).trans h.gg, (hb.block _ (lt_of_heap h.pr)).trans h.pr, (hb.block _ (lt_of_heap h.op)).trans h.op, h.lg, h.lp, h.lo⟩
theorem AskR.set {wb w' W : World} {wl : Nat} {ow1 : Nat → Lab} {qv bv iv : Value} {ps : List LP} {bs is : List Value} {g n px pm e : Nat} {A B C : Int} {S : ByteArray} (h : AskR wb w' wl ow1 qv bv iv ps bs is g n px pm A B C S) (hc : Chg (fun k => k = e) w' W) (he : ow1 e = .loose) (h1 : g ≠ e) (h2 : n ≠ e) (h3 : n + 1 ≠ e) : AskR wb W wl ow1 qv bv iv ps bs is g n px pm A B C S :=
  ⟨h.lb.chg hc fun k hk => by rw [hk]; exact he, (hc.block _ (lt_of_heap h.gg) h1).trans h.gg, (hc.block _ (lt_of_heap h.pr) h2).trans h.pr, (hc.block _ (lt_of_heap h.op) h3).trans h.op, h.lg, h.lp, h.lo⟩
/-- With the error's box. -/
def AskE (wb w' : World) (wl : Nat) (ow1 : Nat → Lab) (qv bv iv : Value) (ps : List LP) (bs is : List Value) (g n px pm : Nat) (A B C : Int) (S : ByteArray) (b : Nat) (k : Int) : Prop :=
  AskR wb w' wl ow1 qv bv iv ps bs is g n px pm A B C S ∧ w'.heap[b]? = some (.cells #[.int .i64 k, .int .i64 (-1), .int .i64 0, .bool true] 39 (0, 0)) ∧ ow1 b = .loose
theorem askE_alloc {wb w' : World} {wl : Nat} {ow1 : Nat → Lab} {qv bv iv : Value} {ps : List LP} {bs is : List Value} {g n px pm : Nat} {A B C : Int} {S : ByteArray} (k : Int) (h : AskR wb w' wl ow1 qv bv iv ps bs is g n px pm A B C S) (hl : ∀ k, w'.heap.size ≤ k → ow1 k = .loose) : AskE wb (w'.alloc (.cells #[.int .i64 k, .int .i64 (-1), .int .i64 0, .bool true] 39)) wl ow1 qv bv iv ps bs is g n px pm A B C S w'.heap.size k :=
  ⟨h.below ((Below.refl _ _).alloc (Nat.le_refl _) _), World.alloc_heap_new _ _, hl _ (Nat.le_refl _)⟩
theorem askE_set {wb w' : World} {wl : Nat} {ow1 : Nat → Lab} {qv bv iv : Value} {ps : List LP} {bs is : List Value} {g n px pm e : Nat} {A B C : Int} {S : ByteArray} (k : Int) (h : AskR wb w' wl ow1 qv bv iv ps bs is g n px pm A B C S) (he : ow1 e = .loose) (hb : w'.heap[e]? = some (.cells #[.int .i64 0, .int .i64 0, .int .i64 0, .bool false] 39 (0, 0))) (h1 : g < e) (h2 : n + 1 < e) :
    AskE wb ((((w'.setCell ⟨e, 0, none⟩ (.int .i64 k)).setCell ⟨e, 1, none⟩ (.int .i64 (-1))).setCell ⟨e, 2, none⟩ (.int .i64 0)).setCell ⟨e, 3, none⟩ (.bool true)) wl ow1 qv bv iv ps bs is g n px pm A B C S e k :=
  ⟨h.set ((((Chg.refl (fun k => k = e) w').setCell (p := ⟨e, 0, none⟩) (.inl rfl) _).setCell (p := ⟨e, 1, none⟩) (.inl rfl) _).setCell (p := ⟨e, 2, none⟩) (.inl rfl) _ |>.setCell (p := ⟨e, 3, none⟩) (.inl rfl) _) he (by omega) (by omega) (by omega), heap_setCell (i := 3) _ (heap_setCell (i := 2) _ (heap_setCell (i := 1) _ (heap_setCell (i := 0) _ hb))), he⟩
section
variable {wb w : World} {wl : Nat} {ow : Nat → Lab} {qv bv iv : Value} {ps : List LP} {bs is : List Value}
set_option maxRecDepth 100000 in
set_option maxHeartbeats 4000000 in
theorem asked_write_l (h : LB wb w wl ow qv bv iv ps bs is) {j : Nat} {p : LP} (hp : ps[j]? = some p) (htu : p.u = p.t) (hk : p.t.Ok) (hsm : p.t.Small) (B A C : Int) (S : ByteArray) (hS : S.size ≤ 1000000) :
    Calls Tryz.prog 51 #[.agg #[ptr p.x, ptr p.m], opV 3 A B C S] w fun y w' => ∃ ow' T, y = .returned (.bool true) ∧ LB wb w' wl ow' qv bv iv (ps.set j { p with t := T, u := T }) bs is ∧ T.Ok ∧ T.last ≤ p.t.last + 1 ∧ T.now = p.t.now := by
  obtain ⟨ow, h, _, hlo⟩ := h.norm
  obtain ⟨num, k, T, hT, hTl, hTn, hX, hM⟩ := write_both p.t hk hsm B S hS
  obtain ⟨px, hpx⟩ : ∃ px, p.x = px := ⟨_, rfl⟩
  obtain ⟨pm, hpm⟩ : ∃ pm, p.m = pm := ⟨_, rfl⟩
  rw [hpx, hpm]
  obtain ⟨W0, hW0⟩ : ∃ W0, (w.alloc (.cells #[ptr px, ptr pm] 114)).alloc (.cells #[.int .i64 3, .int .i64 A, .int .i64 B, .int .i64 C, .string S] 73) = W0 := ⟨_, rfl⟩
  have hb0 : Below w.heap.size w W0 := by rw [← hW0]; exact ((Below.refl _ _).alloc (Nat.le_refl _) _).alloc (by simp) _
  have ho0 : W0.heap[w.heap.size + 1]? = some (.cells #[.int .i64 3, .int .i64 A, .int .i64 B, .int .i64 C, .string S] 73 (0, 0)) := by
    rw [← hW0]
    have := World.alloc_heap_new (w.alloc (.cells #[ptr px, ptr pm] 114)) (.cells #[.int .i64 3, .int .i64 A, .int .i64 B, .int .i64 C, .string S] 73)
    rwa [show (w.alloc (.cells #[ptr px, ptr pm] 114)).heap.size = w.heap.size + 1 from by simp] at this
  have h0 : W0.heap[w.heap.size]? = some (.cells #[ptr px, ptr pm] 114 (0, 0)) := by
    rw [← hW0]
    refine (Below.heap_alloc _ _ _ (by simp)).trans ?_
    exact World.alloc_heap_new w _
  have z0 : W0.cell? ⟨w.heap.size + 1, 0, none⟩ = some (.int .i64 3) := cell_of ho0 rfl
  have z4 : W0.cell? ⟨w.heap.size + 1, 4, none⟩ = some (.string S) := cell_of ho0 rfl
  obtain ⟨g, hgW⟩ : ∃ g, W0.heap.size = g := ⟨_, rfl⟩
  have hgw : w.heap.size + 1 < g := by have := lt_of_heap ho0; omega
  obtain ⟨W1, hW1⟩ : ∃ W1, W0.alloc (.cells (madeCells #[.int .u8 0] (S.size + 1)) 5) = W1 := ⟨_, rfl⟩
  have hb1 : Below W0.heap.size W0 W1 := by rw [← hW1]; exact (Below.refl _ _).alloc (Nat.le_refl _) _
  have hg1 : W1.heap[g]? = some (.cells (madeCells #[.int .u8 0] (S.size + 1)) 5 (0, 0)) := by rw [← hW1, ← hgW]; exact World.alloc_heap_new _ _
  have ho1 := (hb1.block _ (lt_of_heap ho0)).trans ho0
  have h01 := (hb1.block _ (lt_of_heap h0)).trans h0
  obtain ⟨W2, hW2⟩ : ∃ W2, W1.setRow g (strC S ++ (madeCells #[.int .u8 0] (S.size + 1)).toList.drop S.size).toArray = W2 := ⟨_, rfl⟩
  have hg2 := setRow_heap W1 g _ (strC S ++ (madeCells #[.int .u8 0] (S.size + 1)).toList.drop S.size).toArray _ _ hg1
  have hc2 : Chg (fun k => k = g) W1 (W1.setRow g (strC S ++ (madeCells #[.int .u8 0] (S.size + 1)).toList.drop S.size).toArray) := ⟨rfl, rfl, rfl, by simp, fun k _ hk => setRow_other _ _ _ _ hk⟩
  have hcp := cpS W1 S g (S.size + 1) (S.size + 1) _ _ hg1 (Nat.le_succ _) (by rw [size_madeCells]; exact Nat.le_refl _)
  have hmk := mkU8 S.size hS W0
  rw [hW1, hgW] at hmk
  rw [hW2] at hg2 hc2 hcp
  rw [toList_madeCells_one] at hg2
  have hcz : strC S ++ (List.replicate (S.size + 1) (Value.int .u8 0)).drop S.size = strC S ++ [.int .u8 0] := by rw [List.drop_replicate, show S.size + 1 - S.size = 1 from by omega]; rfl
  rw [hcz] at hg2
  have ho2 := (hc2.block _ (lt_of_heap ho1) (by omega)).trans ho1
  have h02 := (hc2.block _ (lt_of_heap h01) (by omega)).trans h01
  have y4 : W1.cell? ⟨w.heap.size + 1, 4, none⟩ = some (.string S) := cell_of ho1 rfl
  have x4 : W2.cell? ⟨w.heap.size + 1, 4, none⟩ = some (.string S) := cell_of ho2 rfl
  have x9 : W2.cell? ⟨g, S.size, none⟩ = some (.int .u8 0) := cell_of hg2 (by simp [strC_len])
  have xf : ∀ i, W2.frozen? ⟨g, i, none⟩ = false := fun i => free_of hg2
  obtain ⟨W3, hW3⟩ : ∃ W3, W2.setCell ⟨g, S.size, none⟩ (.int .u8 77) = W3 := ⟨_, rfl⟩
  have hg3 := heap_setCell (i := S.size) (.int .u8 77) hg2
  have hc3 : Chg (fun k => k = g) W2 (W2.setCell ⟨g, S.size, none⟩ (.int .u8 77)) := chg_set _
  rw [hW3] at hg3 hc3
  have hset : (strC S ++ [Value.int .u8 0]).toArray.setIfInBounds S.size (Value.int .u8 77) = (strC S ++ [Value.int .u8 77]).toArray := by
    have hl := strC_len S
    apply Array.ext'
    rw [Array.toList_setIfInBounds]
    simp [← hl]
  rw [hset] at hg3
  have ho3 := (hc3.block _ (lt_of_heap ho2) (by omega)).trans ho2
  have h03 := (hc3.block _ (lt_of_heap h02) (by omega)).trans h02
  have hlg : ow g = .loose := hlo g (by omega)
  have hL3 : LB wb W3 wl ow qv bv iv ps bs is := (((h.below hb0).below hb1).chg hc2 fun k hk => by rw [hk]; exact hlg).chg hc3 fun k hk => by rw [hk]; exact hlg
  have s4 : W3.cell? ⟨w.heap.size + 1, 4, none⟩ = some (.string S) := cell_of ho3 rfl
  have s2 : W3.cell? ⟨w.heap.size + 1, 2, none⟩ = some (.int .i64 B) := cell_of ho3 rfl
  have s0 : W3.cell? ⟨w.heap.size, 0, none⟩ = some (ptr px) := cell_of h03 rfl
  have hWW := hX
  have hwr : ∀ X : World, Below W3.heap.size W3 X → Calls Tryz.prog 33 #[ptr px, .int .i64 B, .slice (some ⟨g, 0, none⟩) S.size (S.size + 1)] X fun y w' => y = .returned (.tuple #[.int .i64 num, plErr k (-1) 0]) ∧ ∃ ow1, Hid (AskR wb w' wl ow1 qv bv iv (ps.set j { p with t := T }) bs is g w.heap.size px pm A B C S ∧ (∀ k, w'.heap.size ≤ k → ow1 k = .loose) ∧ ∀ k, W3.heap.size ≤ k → k < X.heap.size → ow1 k = .loose ∧ w'.heap[k]? = X.heap[k]?) ∧ X.heap.size ≤ w'.heap.size := by
    intro X hX
    have hLX := hL3.below hX
    have hgX := (hX.block _ (lt_of_heap hg3)).trans hg3
    have hhX := (hX.block _ (lt_of_heap h03)).trans h03
    have hoX := (hX.block _ (lt_of_heap ho3)).trans ho3
    have hll : ∀ k, w.heap.size ≤ k → ¬ ow k = .x j := fun k hk e => by rw [hlo k hk] at e; cases e
    refine (hWW X px (fun k => ow k = .x j) (some ⟨g, 0, none⟩) (S.size + 1) (by rw [← hpx]; exact hLX.xs j p hp) hLX.err (hLX.nf j) (fun h4 => datS h4 hgX (by simp only [List.toList_toArray]; rw [List.take_append_of_le_length (by rw [strC_len]; omega)]; exact List.take_of_length_le (by rw [strC_len]; omega)))).mono ?_
    rintro y w5 ⟨F', rfl, hq, hF, hc⟩
    obtain ⟨ow1, hL5, ho1, ho2⟩ := hLX.stepX hp (by rw [hpx]; exact hq.lt) (fun k (hk : F' k ∧ k < w5.heap.size) => hF k hk.1) hc
    have hz3 := hX.size
    have hw3 := lt_of_heap h03
    have hlt3 := lt_of_heap ho3
    have hgt3 := lt_of_heap hg3
    have hz5 := hc.size
    refine ⟨rfl, ow1, Lib.hid ⟨⟨hL5, (hc.block _ (lt_of_heap hgX) (hll _ (by omega))).trans hgX, (hc.block _ (lt_of_heap hhX) (hll _ (Nat.le_refl _))).trans hhX, (hc.block _ (lt_of_heap hoX) (hll _ (Nat.le_succ _))).trans hoX, (ho1 _ (by omega)).trans (hlo _ (by omega)), (ho1 _ (by omega)).trans (hlo _ (Nat.le_refl _)), (ho1 _ (by omega)).trans (hlo _ (Nat.le_succ _))⟩, fun k hk => ho2 k (by omega) (fun e => by omega), fun k hk hkX => ⟨(ho1 k hkX).trans (hlo k (by omega)), hc.block k hkX (hll k (by omega))⟩⟩, hz5⟩
  have HWR := Lib.hid hwr
  clear hwr hWW
  have hnn : (0 : Int) ≤ (S.size : Int) := by omega
  have hnb : (S.size : Int) ≤ 1000000 := by omega
  have HL := Lib.hid hL3
  have HP := Lib.hid (And.intro hp (And.intro htu (And.intro hT (And.intro hTl hTn))))
  have HX := Lib.hid hX
  have HM := Lib.hid hM
  have HW0 := Lib.hid hW0
  have HW3 := Lib.hid hW3
  have HG3 := Lib.hid hg3
  have HH3 := Lib.hid h03
  have HO3 := Lib.hid ho3
  have HLO := Lib.hid hlo
  have HGW := Lib.hid hgw
  have HPX := Lib.hid (And.intro hpx hpm)
  clear h hL3 hp htu hX hM hW0 hW1 hW2 hW3 hb0 hb1 hc2 hc3 h0 ho0 h01 ho1 h02 ho2 h03 ho3 hg1 hg2 hg3 hT hTl hTn hlo hpx hpm hset hlg hgW hcz hgw
  unfold opV
  go_enter Tryz.func51, Tryz.ntmps51
  go_upto_region 1 with fail
  rw [HW0.out]
  go_upto_region 9 with fail
  rw [HW3.out]
  have b1 : (S.size : Int) ≤ (S.size : Int) + 1 := by omega
  have b2 : ((S.size : Nat) : Int) ≤ ((S.size + 1 : Nat) : Int) := by omega
  have b3 : S.size + 1 ≠ 0 := by omega
  have l0 := lt_of_heap HH3.out
  have l1 := lt_of_heap HO3.out
  have l2 := lt_of_heap HG3.out
  have n0 : w.heap.size ≠ W3.heap.size := by omega
  have n1 : w.heap.size + 1 ≠ W3.heap.size := by omega
  have n2 := n0.symm
  have n3 := n1.symm
  clear z0 z4 y4 x4 x9 xf hcp hmk
  go_cut [11, 12] from 60 to 72 (fun s11 s12 wx => ∃ b ow1, s11 = .int .i64 num ∧ s12 = ptr b ∧ Hid (AskE wb wx wl ow1 qv bv iv (ps.set j { p with t := T }) bs is g w.heap.size px pm A B C S b k))
  case first =>
    go_region_held3 (fun w' => w'.cell? ⟨w.heap.size, 0, none⟩ = some (ptr px) ∧ w'.cell? ⟨w.heap.size + 1, 2, none⟩ = some (.int .i64 B) ∧ w'.cell? ⟨w.heap.size + 1, 4, none⟩ = some (.string S)) (go_keep)
      (first
        | (go_at_call 33; refine (HWR.out _ (by go_grown)).mono ?_; rintro y w5 ⟨rfl, ow1, hres, hz5⟩
           have hs0 : w5.cell? ⟨w.heap.size, 0, none⟩ = some (ptr px) := cell_of hres.out.1.pr rfl
           have hs1 : w5.cell? ⟨w.heap.size + 1, 2, none⟩ = some (.int .i64 B) := cell_of hres.out.1.op rfl
           have hs2 : w5.cell? ⟨w.heap.size + 1, 4, none⟩ = some (.string S) := cell_of hres.out.1.op rfl
           try simp at hz5
           have m0 : w.heap.size ≠ w5.heap.size := by omega
           have m1 : w.heap.size + 1 ≠ w5.heap.size := by omega
           have m2 := m0.symm
           have m3 := m1.symm
           try (have hla : W3.heap.size < w5.heap.size := ?zval; case zval => omega)
           try (have hna : W3.heap.size ≠ w5.heap.size := ?zval; case zval => omega)
           try (have hnc : w5.heap.size ≠ W3.heap.size := ?zval; case zval => omega)
           try (have zE : w5.heap[W3.heap.size]? = some (.cells #[.int .i64 0, .int .i64 0, .int .i64 0, .bool false] 39 (0, 0)) := ?zval; case zval => (refine ((hres.out.2.2 W3.heap.size (Nat.le_refl _) (by simp)).2).trans ?_; first | exact World.alloc_heap_new _ _ | (simp; done)))
           try (have zE0 : w5.cell? ⟨W3.heap.size, 0, none⟩ = some (.int .i64 0) := ?zval; case zval => exact cell_of zE rfl)
           try (have zE1 : w5.cell? ⟨W3.heap.size, 1, none⟩ = some (.int .i64 0) := ?zval; case zval => exact cell_of zE rfl)
           try (have zE2 : w5.cell? ⟨W3.heap.size, 2, none⟩ = some (.int .i64 0) := ?zval; case zval => exact cell_of zE rfl)
           try (have zE3 : w5.cell? ⟨W3.heap.size, 3, none⟩ = some (.bool false) := ?zval; case zval => exact cell_of zE rfl)
           try (have zEf : ∀ i, w5.frozen? ⟨W3.heap.size, i, none⟩ = false := ?zval; case zval => exact fun i => free_of zE)
           try (have zEl : Hid (ow1 W3.heap.size = .loose ∧ w5.heap[W3.heap.size]? = some (.cells #[.int .i64 0, .int .i64 0, .int .i64 0, .bool false] 39 (0, 0))) := ?zval; case zval => exact Lib.hid ⟨(hres.out.2.2 W3.heap.size (Nat.le_refl _) (by simp)).1, zE⟩)
           try clear zE))
    all_goals
      go_wp2_with fail
      go_meet
      case rel =>
        first
          | (with_reducible exact ⟨_, ow1, rfl, rfl, Lib.hid (askE_alloc _ hres.out.1 hres.out.2.1)⟩)
          | (with_reducible exact ⟨_, ow1, rfl, rfl, Lib.hid (askE_set _ hres.out.1 zEl.out.1 zEl.out.2 l2 l1)⟩)
  case rest =>
    obtain ⟨b, ow1, rfl, rfl, hA⟩ := hcut
    obtain ⟨wc, hwc⟩ : ∃ wc : World, wc = W3 := ⟨_, rfl⟩
    clear hwc wc
    have d1 := cell_of (i := 1) hA.out.1.pr rfl
    have d2 := cell_of (i := 2) hA.out.1.op rfl
    have d4 := cell_of (i := 4) hA.out.1.op rfl
    have hp2 := set_at HP.out.1 { p with t := T }
    have hm2 := hA.out.1.lb.ms j _ hp2
    simp only at hm2
    rw [HPX.out.2, HP.out.2.1] at hm2
    have HMM := Lib.hid (HM.out _ pm (fun k => ow1 k = .m j) hm2)
    clear hm2 hp2 b1 b2 b3 l0 l1 l2 n0 n1 n2 n3
    go_wp2_with fail
    refine HMM.out.mono ?_
    rintro y w7 ⟨G', rfl, hq, hG, hc⟩
    obtain ⟨ow2, hL2, ho3, _⟩ := hA.out.1.lb.stepM (set_at HP.out.1 { p with t := T }) (u' := T) (by simp only; rw [HPX.out.2]; exact hq.lt) (fun k (hk : G' k ∧ k < w7.heap.size) => hG k hk.1) hc
    rw [List.set_set] at hL2
    have he3 := (hc.block _ (lt_of_heap hA.out.2.1) (fun e => by rw [hA.out.2.2] at e; cases e)).trans hA.out.2.1
    have hg3 := (hc.block _ (lt_of_heap hA.out.1.gg) (fun e => by rw [hA.out.1.lg] at e; cases e)).trans hA.out.1.gg
    have hp3 := (hc.block _ (lt_of_heap hA.out.1.pr) (fun e => by rw [hA.out.1.lp] at e; cases e)).trans hA.out.1.pr
    have ho3' := (hc.block _ (lt_of_heap hA.out.1.op) (fun e => by rw [hA.out.1.lo] at e; cases e)).trans hA.out.1.op
    have hlg2 := (ho3 _ (lt_of_heap hA.out.1.gg)).trans hA.out.1.lg
    have g0 : w7.cell? ⟨b, 0, none⟩ = some (.int .i64 k) := cell_of he3 rfl
    have g1 : w7.cell? ⟨b, 1, none⟩ = some (.int .i64 (-1)) := cell_of he3 rfl
    have g2 : w7.cell? ⟨b, 2, none⟩ = some (.int .i64 0) := cell_of he3 rfl
    have g3 : w7.cell? ⟨b, 3, none⟩ = some (.bool true) := cell_of he3 rfl
    have HL2 := Lib.hid hL2
    have HB2 := Lib.hid (And.intro hg3 (And.intro ho3' hlg2))
    clear hq hG hc hL2 ho3 he3 hg3 hp3 ho3' hlg2 d1 d2 d4
    go_wp2_with fail
    refine (none_l k w7).mono ?_
    rintro y w8 ⟨rfl, hB8⟩
    have hg8 := (hB8.block _ (lt_of_heap HB2.out.1)).trans HB2.out.1
    have ho8 := (hB8.block _ (lt_of_heap HB2.out.2.1)).trans HB2.out.2.1
    have hcv := fun n => cvS (w8.drewN n) S g (S.size + 1) _ _ _ (show (w8.drewN n).heap[g]? = _ from hg8) (by simp only [List.toList_toArray]; rw [List.take_append_of_le_length (by rw [strC_len]; exact Nat.le_refl _)]; exact List.take_of_length_le (by rw [strC_len]; exact Nat.le_refl _))
    have e4 : w8.cell? ⟨w.heap.size + 1, 4, none⟩ = some (.string S) := cell_of ho8 rfl
    have e7 : w8.cell? ⟨g, S.size, none⟩ = some (.int .u8 77) := cell_of hg8 (by simp [strC_len])
    have b1 : (S.size : Int) ≤ (S.size : Int) + 1 := by omega
    have b2 : ((S.size : Nat) : Int) ≤ ((S.size + 1 : Nat) : Int) := by omega
    have b3 : S.size + 1 ≠ 0 := by omega
    have b4 : (S.size : Int) < (S.size : Int) + 1 := by omega
    have HL8 := Lib.hid (HL2.out.below hB8)
    have HG8 := Lib.hid hg8
    clear hg8 ho8 hB8 g0 g1 g2 g3
    go_upto_region 12 with fail
    go_quiet (fail)
    clear hcv b1 b2 b3 b4 e7
    obtain ⟨W9, hW9⟩ : ∃ W9, w8.drewN nq = W9 := ⟨_, rfl⟩
    have hB9 : Below w8.heap.size w8 W9 := by rw [← hW9]; exact below_drewN (Below.refl _ _) _
    have hL9 := HL8.out.below hB9
    have hg9 := (hB9.block _ (lt_of_heap HG8.out)).trans HG8.out
    have HL9 := Lib.hid hL9
    have HG9 := Lib.hid hg9
    have HLG := Lib.hid HB2.out.2.2
    rw [hW9]
    clear hW9 hB9 hL9 hg9
    go_wp2_with fail
    go_loopg [17] (S.size + 1) (fun kk iv wx => ∃ (i : Nat) (cur : Array Value), kk = S.size + 1 - i ∧ i ≤ S.size + 1 ∧ iv = .int .i64 i ∧ Hid (Chg (fun k => k = g) W9 wx ∧ wx.heap[g]? = some (.cells cur 5 (0, 0)) ∧ cur.size = S.size + 1))
    case atStart => exact ⟨0, _, by simp, by omega, rfl, Lib.hid ⟨Chg.refl _ _, HG9.out, by simp [strC_len]⟩⟩
    case round =>
      obtain ⟨i, cur, rfl, hi, rfl, hC⟩ := hrel
      by_cases hlt : i < S.size + 1
      · have hltI : (i : Int) < ((S.size + 1 : Nat) : Int) := by omega
        have hltJ : (i : Int) < (S.size : Int) + 1 := by omega
        have hi0 : (0 : Int) ≤ (i : Int) := by omega
        have gf : ∀ j, wr.frozen? ⟨g, j, none⟩ = false := fun j => free_of hC.out.2.1
        obtain ⟨x0, hx0⟩ : ∃ x, cur[i]? = some x := ⟨_, Array.getElem?_eq_getElem (by have := hC.out.2.2; omega)⟩
        have gc : wr.cell? ⟨g, i, none⟩ = some x0 := cell_of hC.out.2.1 hx0
        clear hx0
        go_wp2_with fail
        go_roundg (S.size + 1 - (i + 1))
        case measure => omega
        case rel => exact ⟨i + 1, cur.setIfInBounds i (.int .u8 66), rfl, by omega, by go_num, Lib.hid ⟨hC.out.1.then (chg_set _), heap_setCell (i := i) _ hC.out.2.1, by simpa using hC.out.2.2⟩⟩
      · obtain rfl : i = S.size + 1 := by omega
        have hLf := HL9.out.chg hC.out.1 fun k hk => by rw [hk]; exact HLG.out
        have HLF := Lib.hid hLf
        clear hLf
        go_wp2_with fail
        go_ret
        exact ⟨ow2, T, rfl, by rw [← HPX.out.1, ← HPX.out.2]; exact HLF.out, HP.out.2.2⟩
end
end Go.Proofs.YticobikhndlejaaGreatDoor

/- Now by contract. -/
namespace Go.Proofs.YticobikhndlejaaGreatDoor
open Go.RowKit Go.Shelf Go.Lib

set_option maxRecDepth 100000 in
theorem now_any (q : Nat) (s : Sta) (F : Nat → Prop) (w : World) (h : QAt w q s F) : Calls Tryz.prog 90 #[ptr q] w fun x w' => x = .returned (.int .i64 s.now) ∧ w' = w := by
  obtain ⟨tb, mb, clock, fv, hq, hF⟩ := h
  have c3 := hq.c3
  clear hq hF
  go_enter Tryz.func90, Tryz.ntmps90
  go_wp2_with fail
  go_ret
  exact ⟨rfl, rfl⟩

end Go.Proofs.YticobikhndlejaaGreatDoor
