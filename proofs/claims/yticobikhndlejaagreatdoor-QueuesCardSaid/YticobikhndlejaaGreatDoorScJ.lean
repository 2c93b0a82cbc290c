/- Flights by contract. -/
import Derived.Test.YticobikhndlejaaGreatDoorScI
import Derived.Test.YticobikhndlejaaGreatDoorScD
import Derived.Test.YticobikhndlejaaGreatDoorScC
import Derived.Test.YticobikhndlejaaGreatDoorScG
import Derived.Test.YticobikhndlejaaGreatDoorScH
import Derived.Test.YticobikhndlejaaGreatDoorScE
namespace Go.Proofs.YticobikhndlejaaGreatDoor
open Go.RowKit Go.Shelf Go.Lib

/-- A row of commands, each with a row of its own. -/
structure CmdsAt (w : World) (base : Nat) (v : Value) (cs : List (Cmd × Value)) : Prop where
  row : w.ownsRow base 48 4 v cs.length (cs.flatMap cmdCells)
  rows : ∀ c ∈ cs, w.ownsRow base 3 1 c.2 c.1.nums.length (c.1.nums.map fun n => Value.int .i64 n)
  apart : cs.Pairwise fun a b => ∀ k, a.2.ownBlock = some k → b.2.ownBlock ≠ some k
theorem flat4 {cs : List (Cmd × Value)} {j : Nat} {c : Cmd × Value} (h : cs[j]? = some c) : ∀ i v, (cmdCells c)[i]? = some v → (cs.flatMap cmdCells)[j * 4 + i]? = some v := by
  induction cs generalizing j with
  | nil => simp at h
  | cons x cs ih =>
    intro i v hv
    have hi : i < 4 := (List.getElem?_eq_some_iff.1 hv).1
    cases j with
    | zero =>
      simp at h
      subst h
      rw [List.flatMap_cons, List.getElem?_append_left (by simp [cmdCells]; omega)]
      simpa using hv
    | succ j =>
      rw [List.flatMap_cons, List.getElem?_append_right (by simp [cmdCells]; omega)]
      have := ih (by simpa using h) i v hv
      rw [show (j + 1) * 4 + i - (cmdCells x).length = j * 4 + i from by simp [cmdCells]; omega]
      exact this
/-- One of the row, cell by cell. -/
theorem cmd_cells {w : World} {base : Nat} {v : Value} {cs : List (Cmd × Value)} (h : w.ownsRow base 48 4 v cs.length (cs.flatMap cmdCells)) {j : Nat} {c : Cmd × Value} (hj : cs[j]? = some c) : ∃ g cap, v = .slice (some ⟨g, 0, none⟩) cs.length cap ∧ base ≤ g ∧ g < w.heap.size ∧ ∀ i x, (cmdCells c)[i]? = some x → w.cell? ⟨g, j * 4 + i, none⟩ = some x := by
  have hjl := (List.getElem?_eq_some_iff.1 hj).1
  rcases h.2 with ⟨_, h0⟩ | ⟨g, cap, cur, e, hb, h3, h4, h5, h6, h7⟩
  · omega
  · refine ⟨g, cap, e, hb, lt_of_heap h3, fun i x hx => cell_of h3 ?_⟩
    have hi : i < 4 := (List.getElem?_eq_some_iff.1 hx).1
    have h1 := flat4 hj i x hx
    rw [← h7, List.getElem?_take_of_lt (by omega)] at h1
    rw [← Array.getElem?_toList]; exact h1

set_option maxRecDepth 100000 in
set_option maxHeartbeats 1000000 in
theorem flights_any (q : Nat) (s : Sta) (F : Nat → Prop) (w : World) (h : QAt w q s F) (hl : ∀ c ∈ s.cs, c.1.nums.length ≤ 1000000) (hcl : s.cs.length ≤ 1000) :
    Calls Tryz.prog 22 #[ptr q] w fun x w' => ∃ v cs', x = .returned v ∧ cs'.map (·.1) = s.cs.map (·.1) ∧ CmdsAt w' w.heap.size v cs' ∧ Below w.heap.size w w' := by
  obtain ⟨tb, mb, clock, fv, hq, hF⟩ := h
  obtain ⟨fa, fc, rfl⟩ := own_slice hq.fl
  have c2 := hq.c2
  obtain ⟨n, hn⟩ : ∃ n, s.cs.length = n := ⟨_, rfl⟩
  rw [hn] at c2
  have HQ := Lib.hid hq
  have HL := Lib.hid hl
  obtain ⟨i0, hi, hz0, hz1, hz2⟩ := info_parts Tryz.infoC
  clear hq hF hl
  go_enter Tryz.func22, Tryz.ntmps22
  go_wp2_with fail
  go_loopg [3, 11] n (fun k out i wr => ∃ (j : Nat) (cs' : List (Cmd × Value)), k = n - j ∧ j ≤ n ∧ i = .int .i64 j ∧ cs'.length = j ∧ Hid (cs'.map (·.1) = (s.cs.take j).map (·.1)) ∧ CmdsAt wr w.heap.size out cs' ∧ Below w.heap.size w wr)
  case atStart => exact ⟨0, [], by simp, by omega, rfl, rfl, Lib.hid (by simp), ⟨World.ownsRow_nil _ _ _ _, (fun _ h => by cases h), List.Pairwise.nil⟩, Below.refl _ _⟩
  case round =>
    obtain ⟨j, cs', rfl, hj, rfl, hlen, hM, hC, hB⟩ := hrel
    by_cases hlt : j < n
    · have hltI : (j : Int) < (n : Int) := by omega
      obtain ⟨⟨c, cv⟩, hc⟩ : ∃ c, s.cs[j]? = some c := ⟨_, List.getElem?_eq_getElem (by omega)⟩
      have hQ := HQ.out.kept (chgB hB fun _ => False) fun _ _ x => x
      have hcm : (c, cv) ∈ s.cs := List.mem_of_getElem? hc
      have hrow := hQ.rows _ hcm
      obtain ⟨va, vc, rfl⟩ : ∃ va vc, cv = .slice va c.nums.length vc := own_slice hrow
      obtain ⟨g, cap, e, _, hgl, hcell⟩ := cmd_cells hQ.fl hc
      simp only [Value.slice.injEq] at e
      obtain ⟨rfl, _, rfl⟩ := e
      have p0 : wr.cell? ⟨g, j * 4, none⟩ = some (.bool c.write) := hcell 0 _ rfl
      have p1 : wr.cell? ⟨g, j * 4 + 1, none⟩ = some (.int .i64 c.page) := hcell 1 _ rfl
      have p2 : wr.cell? ⟨g, j * 4 + 2, none⟩ = some (.int .i64 c.count) := hcell 2 _ rfl
      have p3 : wr.cell? ⟨g, j * 4 + 3, none⟩ = some (.slice va c.nums.length vc) := hcell 3 _ rfl
      have hll := HL.out _ hcm
      have hW : ∀ W, Below wr.heap.size wr W → Calls Tryz.prog 39 #[.agg #[.bool c.write, .int .i64 c.page, .int .i64 c.count, .slice va c.nums.length vc]] W fun e w' => ∃ v', e = .returned (.agg #[.bool c.write, .int .i64 c.page, .int .i64 c.count, v']) ∧ w'.ownsRow W.heap.size 3 1 v' c.nums.length (c.nums.map fun n => Value.int .i64 n) ∧ Below W.heap.size W w' :=
        fun W hb => clone_any c.write c.page c.count _ c.nums W (ownsRow_chg hrow (chgB hb fun _ => False) fun _ _ x => x) hll
      have HC := Lib.hid hC
      have HW := Lib.hid hW
      have HCC := Lib.hid hc
      clear hcell hQ hC hrow hc hW hcm hll
      go_wp2_with fail
      refine (HW.out _ (by go_grown)).mono ?_
      rintro x w2 ⟨v', rfl, hr2, hb2⟩
      obtain ⟨va', vc', rfl⟩ := own_slice hr2
      have hb2' : Below wr.heap.size wr w2 := ((Below.refl _ _).alloc (Nat.le_refl _) _).trans (hb2.mono (by simp))
      have hB2 : Below w.heap.size w w2 := hB.trans (hb2'.mono hB.size)
      have hC2 : CmdsAt w2 w.heap.size u3 cs' := ⟨ownsRow_chg HC.out.row (chgB hb2' fun _ => False) (fun _ _ x => x), (fun d hd => ownsRow_chg (HC.out.rows d hd) (chgB hb2' fun _ => False) fun _ _ x => x), HC.out.apart⟩
      have hsz := hb2'.size
      have hszB := hB.size
      have hrow0 := hC2.row
      rw [hlen] at hrow0
      have HC2 := Lib.hid hC2
      have HR2 := Lib.hid hr2
      clear hC2 hr2
      go_wp2_with (at_builtin; refine wpList_append_own _ rfl _ _ 55 rfl w.heap.size 48 i0 (.agg #[.bool false, .int .i64 0, .int .i64 0, .slice none 0 0]) 4 48 Tryz.underlying55 hi hz0 hz1 hz2 rfl (by decide) _ _ _ rfl (hrow0.alloc _) ⟨w2.heap.size, 0, none⟩ 1 1 [.bool c.write, .int .i64 c.page, .int .i64 c.count, .slice va' c.nums.length vc'] rfl rfl (World.news_of_block (World.alloc_heap_new w2 _)) (by simp [Value.oneCell']) ?_ ?_ ?_ ?_)
      · unfold maxLen; omega
      · omega
      · simp; omega
      intro v'' w3 hown' hgrow _
      have hc3 : Chg (fun k => u3.ownBlock = some k) w2 w3 := ((Chg.refl _ w2).alloc _).grown hgrow fun k hk => .inl hk
      have hB3 : Below w.heap.size w w3 := (hB2.alloc hB2.size _).grown hgrow (by have := hB2.size; simp; omega) (fun k ek => (hrow0.lt k ek).1)
      have hkeep : ∀ (v : Value) (ns : List Int) (b : Nat), w2.ownsRow b 3 1 v ns.length (ns.map fun n => Value.int .i64 n) → w3.ownsRow b 3 1 v ns.length (ns.map fun n => Value.int .i64 n) := fun v ns b hv => ownsRow_chg hv hc3 fun k hk hh => by
        obtain ⟨cur1, e1⟩ := own_heap hv hk
        obtain ⟨cur2, e2⟩ := own_heap hrow0 hh
        rw [e1] at e2
        cases e2
      have hC3 : CmdsAt w3 w.heap.size v'' (cs' ++ [(c, .slice va' c.nums.length vc')]) := by
        refine ⟨?_, fun d hd => ?_, ?_⟩
        · rw [List.flatMap_append, List.length_append, hlen]
          simpa [cmdCells] using hown'
        · rcases List.mem_append.1 hd with hd | hd
          · exact hkeep _ _ _ (HC2.out.rows d hd)
          · rw [List.mem_singleton.1 hd]
            exact ownsRow_low (hkeep _ _ _ HR2.out) (by simp; omega)
        · refine List.pairwise_append.2 ⟨HC2.out.apart, List.pairwise_singleton _ _, fun d hd e he k hk hk2 => ?_⟩
          rw [List.mem_singleton.1 he] at hk2
          have h1 := (HR2.out.lt k hk2).1
          have h2 := ((HC.out.rows d hd).lt k hk).2
          simp at h1
          omega
      have HC3 := Lib.hid hC3
      clear hown' hgrow hC3 hkeep hc3 hrow0
      go_wp2
      go_roundg (n - (j + 1))
      case measure => omega
      case rel => exact ⟨j + 1, _, rfl, by omega, by go_num, by simp [hlen], Lib.hid (by rw [List.take_succ_eq_append_getElem (by omega), List.map_append, List.map_append, hM.out, (List.getElem?_eq_some_iff.1 HCC.out).2]; rfl), HC3.out, hB3⟩
    · obtain rfl : j = n := by omega
      have HC := Lib.hid hC
      clear hC
      go_wp2
      go_ret
      exact ⟨_, rfl, cs', by rw [hM.out, List.take_of_length_le (by omega)], HC.out, hB⟩
end Go.Proofs.YticobikhndlejaaGreatDoor

/- slices.Sort at []int stands in Shelf. -/


/- maps.Keys over the table's map, slices.AppendSeq, slices.Collect, slices.Sorted at ints; Table.Waiting: by contracts. -/
namespace Go.Proofs.YticobikhndlejaaGreatDoor
open Go.RowKit Go.Shelf

attribute [local go_sem] Oper.semAt_some

set_option maxRecDepth 100000 in
set_option maxHeartbeats 1000000 in
/-- maps.Keys's iterator over the table's map: every entry comes once, in some order. -/
theorem keys1_in (F : Fence) (n : Nat) (hf : F.fn 107) (hro : F.round = none) (hn : 1 ≤ n) (l Bm mb clock : Nat) (es : List Ent) (J Jx : List Ent → World → Prop)
    (hY : ∀ pre x W, J pre W → pre.length < es.length → YieldAt F (n - 1) Tryz.prog l #[Value.int .i64 x.r.num] W fun e W' =>
      (e = .returned (.bool true) ∧ J (pre ++ [x]) W' ∧ KeepsWalks W W') ∨ (e = .returned (.bool false) ∧ Jx (pre ++ [x]) W'))
    (W : World) (hJ : AbidesFrom W.heap.size J) (hm : W.cell? ⟨Bm, 0, none⟩ = some (.map (some mb))) (hmap : W.heap[mb]? = some (mapObj es clock)) (hb : ∀ e ∈ es, e.born < clock) (hnd : (es.map Ent.born).Nodup) (h0 : J [] W) :
    CallsIn F n Tryz.prog 107 #[.func (.yield l) #[] #[], ptr Bm] W fun e W' => (∃ v, e = .returned v) ∧
      ((∃ xs, xs.Perm es ∧ J xs W') ∨ (∃ pre, True ∧ Jx pre W')) := by
  have hml := lt_of_heap hmap
  have hrg := run_range_map (P := Tryz.prog) (w := W) Tryz.underlying146 hmap
  refine callsIn_of_wp Tryz.func107 rfl hf ?_ hro
  simp only [Tryz.ntmps107, List.size_toArray, List.length_cons, List.length_nil, Nat.reduceAdd, Nat.reduceSub, Array.replicate_succ, Array.replicate_zero, List.push_toArray, List.append_toArray, List.nil_append, List.cons_append]
  gi_wp2
  gi_loopw [3] (fun _ wr => ∃ vs : List Ent, wr.heap[W.heap.size]? = some (iterObj mb clock (vs.map Ent.born)) ∧ wr.heap[mb]? = some (mapObj es clock) ∧ (∀ v ∈ vs, v ∈ es) ∧ (vs.map Ent.born).Nodup ∧ J vs wr)
    (fun _ wr => iterLeft es.length W.heap.size wr)
  case atStart =>
    refine ⟨[], World.alloc_heap_new W _, (Below.heap_alloc _ _ _ hml).trans hmap, by simp, by simp, ?_⟩
    exact hJ [] W _ none h0 (World.grownBy_alloc W _ none) (fun r e => by cases e)
  case round =>
    obtain ⟨vs, hI, hM, hve, hvn, hJs⟩ := hrel
    by_cases hl : leftOf es (vs.map Ent.born) = []
    · have hnx := fun ty => next_over (P := Tryz.prog) ty _ _ hI hM hb hl
      have hp := left_perm hve hnd hvn hl
      gi_wp2
      go_end0
      exact ⟨⟨_, rfl⟩, .inl ⟨vs, hp, hJs⟩⟩
    · obtain ⟨e, he, w2, hnx, hw2⟩ := next_some (P := Tryz.prog) 0 _ _ hI hM hb hl
      have hlt := len_lt_of_left hve hvn he
      have hee := (List.mem_filter.1 he).1
      have hnb : e.born ∉ vs.map Ent.born := by simpa using (List.mem_filter.1 he).2
      have hml2 := lt_of_heap hM
      have hil := lt_of_heap hI
      have hI2 : w2.heap[W.heap.size]? = some (iterObj mb clock ((vs ++ [e]).map Ent.born)) := by
        rcases hw2 with rfl | rfl
        · rw [World.putObj_heap_same hil]; simp
        · rw [World.putObj_heap_same (by simpa using hil)]; simp
      have hM2 : w2.heap[mb]? = some (mapObj es clock) := by
        rcases hw2 with rfl | rfl <;> rw [World.putObj_heap_other (by omega)]
        · exact hM
        · exact hM
      have hg2 : wr.grownBy w2 (some W.heap.size) := by
        rcases hw2 with rfl | rfl
        · exact grownBy_putObj' _ _ _
        · exact ⟨rfl, rfl, rfl, by simp, fun k _ hk => World.putObj_heap_other (fun e => hk (by rw [e]))⟩
      have hJ2 : J vs w2 := hJ vs wr w2 (some W.heap.size) hJs hg2 (fun r e => by cases e; exact ⟨Nat.le_refl _, _, hI, rfl⟩)
      have hen := entry_run (P := Tryz.prog) (w := w2) _ _ (by simpa using hI2) hM2 hee hnd
      obtain ⟨fn, tmps, assign, body, hy, hR⟩ := hY vs e w2 hJ2 hlt
      clear hw2
      have HI2 := Lib.hid hI2
      have HM2 := Lib.hid hM2
      have HI := Lib.hid hI
      clear hI2 hM2 hI hM hmap hrg
      gi_wp2
      refine hR.mono ?_
      have hve' : ∀ v ∈ vs ++ [e], v ∈ es := fun v hv => (List.mem_append.1 hv).elim (hve v) (fun h => by simp at h; subst h; exact hee)
      have hvn' : ((vs ++ [e]).map Ent.born).Nodup := by
        rw [List.map_append]
        exact List.nodup_append.2 ⟨hvn, by simp, fun a ha b hb hab => by simp at hb; subst hb; exact hnb (hab ▸ ha)⟩
      rintro e' W3 (⟨rfl, hJ3, hk3⟩ | ⟨rfl, hJx3⟩)
      · gi_wp2
        have hI3 := hk3.same _ _ HI2.out rfl
        go_roundw
        case rel => exact ⟨vs ++ [e], hI3, hk3.same _ _ HM2.out rfl, hve', hvn', hJ3⟩
        case measure => rw [iterLeft_eq hI3, iterLeft_eq HI.out]; simp; omega
      · gi_wp2
        refine bodyPost_ret (results_none rfl _ _ _) rfl ?_
        exact ⟨⟨_, rfl⟩, .inr ⟨vs ++ [e], trivial, hJx3⟩⟩

/-- maps.Keys(m): the map is boxed; the function value captures the box. -/
theorem keys_in (F : Fence) (n : Nat) (hf : F.fn 74) (hro : F.round = none) (m : Option Nat) (w : World) :
    CallsIn F n Tryz.prog 74 #[.map m] w fun e w' => e = .returned (.func (.func 107) #[] #[ptr w.heap.size]) ∧ w' = w.alloc (.cells #[.map m] 146) := by
  refine callsIn_of_wp Tryz.func74 rfl hf ?_ hro
  simp only [Tryz.ntmps74, List.size_toArray, List.length_cons, List.length_nil, Nat.reduceAdd, Nat.reduceSub, Array.replicate_succ, Array.replicate_zero, List.push_toArray, List.append_toArray, List.nil_append, List.cons_append]
  gi_wp2
  go_ret
  exact ⟨rfl, rfl⟩
theorem keys_stops (F : Fence) (n : Nat) (hf : F.fn 107) (hro : F.round = none) (hn : 1 ≤ n) (Bm mb clock : Nat) (es : List Ent) (w : World) (hBm : Bm < w.heap.size)
    (hm : w.cell? ⟨Bm, 0, none⟩ = some (.map (some mb))) (hmap : w.heap[mb]? = some (mapObj es clock)) (hb : ∀ e ∈ es, e.born < clock) (hnd : (es.map Ent.born).Nodup) :
    SeqStopsK F n Tryz.prog 107 #[ptr Bm] (fun e : Ent => #[Value.int .i64 e.r.num]) KeepsWalks (fun xs => xs.Perm es) (fun _ => True) es.length w := fun l J Jx W hW hJ _ hY h0 =>
  keys1_in F n hf hro hn l Bm mb clock es J Jx hY W hJ ((hW.cell (p := ⟨Bm, 0, none⟩) hBm).trans hm) ((hW.block mb (lt_of_heap hmap)).trans hmap) hb hnd h0

theorem Tryz.infoK : (Tryz.prog.info? 3).map (fun i => (i.zero, i.size, i.bytes)) = some (some (.int .i64 0), 1, 8) := by kernel_rfl

set_option maxRecDepth 100000 in
set_option maxHeartbeats 2000000 in
/-- slices.AppendSeq(nil, seq): a slice of the call's own that holds what came. -/
theorem appendSeq_inK (F : Fence) (n : Nat) (hf : F.fn 121) (hg : F.fn 107) (hro : F.round = none) (hn : 3 ≤ n) (Bm : Nat) (S : List Ent → Prop) (N : Nat) (hN : N ≤ 1000000)
    (w : World) (hs : SeqStopsK F (n - 1) Tryz.prog 107 #[ptr Bm] (fun e : Ent => #[Value.int .i64 e.r.num]) KeepsWalks S (fun _ => True) N w) :
    CallsIn F n Tryz.prog 121 #[.slice none 0 0, .func (.func 107) #[] #[ptr Bm]] w fun e W' =>
      ∃ v vs, e = .returned v ∧ S vs ∧ W'.ownsRow w.heap.size 3 1 v vs.length (vs.map fun e => Value.int .i64 e.r.num) ∧ Below w.heap.size w W' := by
  have h1 : 1 ≤ n := by omega
  obtain ⟨i0, hi, hz0, hz1, hz2⟩ := info_parts Tryz.infoK
  refine callsIn_of_wp_marks Tryz.func121 rfl hf ?_ hro
  simp only [Tryz.ntmps121, List.size_toArray, List.length_cons, List.length_nil, Nat.reduceAdd, Nat.reduceSub, Array.replicate_succ, Array.replicate_zero, List.push_toArray, List.append_toArray, List.nil_append, List.cons_append]
  have HS := Lib.hid hs
  clear hs
  gi_wp2
  have bO := Boxed.new w 24 (.slice none 0 0)
  have hB0 : Below w.heap.size w (w.alloc (.cells #[.slice none 0 0] 24)) := (Below.refl _ w).alloc (Nat.le_refl _) _
  refine wpIn_rangeFunc_ownG hro h1 (gf := 107) (lb := #[ptr Bm]) rfl hg (enters_of Tryz.func107 (by kernel_rfl) rfl)
    (fun l J Jx W' hW hJ hJx hY h0 => HS.out l J Jx W' (hB0.trans (hW.mono hB0.size)) hJ hJx hY h0) walksK_t walksK_b (Below.refl _ _) (fun _ => rfl)
    (fun (pre : List Ent) W => (∃ v, Boxed W w.heap.size 24 v ∧ W.ownsRow w.heap.size 3 1 v pre.length (pre.map fun e : Ent => Value.int .i64 e.r.num) ∧ True) ∧ Below w.heap.size w W)
    (fun _ _ _ => False)
    (OwnFrom.and (Own.from (holdsRow_own w.heap.size w.heap.size 24 3 1 (fun pre : List Ent => pre.length) (fun pre : List Ent => pre.map fun e => Value.int .i64 e.r.num) (fun (_ : List Ent) _ => True)) _) (ownFrom_below (Nat.le_refl _) (by simp)))
    (fun _ _ _ _ _ hs _ _ => hs)
    ⟨⟨_, bO, World.ownsRow_nil _ _ _ _, trivial⟩, hB0⟩
    (fun x : Ent => { tmps := #[.slice none 0 0, .func (.func 107) #[] #[ptr Bm], ptr w.heap.size, undef, .slice none 0 0, Value.int .i64 x.r.num, .func (.func 107) #[] #[ptr Bm], Value.int .i64 x.r.num, undef, undef, undef, undef, undef], defers := [] }) ?assign ?body ?done ?stop
  case assign =>
    intro l x W K hK
    gi_wp2
    exact hK
  case body =>
    rintro l pre x W ⟨⟨v, hv, hrow, _⟩, hB⟩ hlt
    have hc := hv.cell
    gi_wp2_with (gi_at_builtin; refine wpListIn_append_own _ rfl _ _ 24 rfl w.heap.size 3 i0 (.int .i64 0) 1 8 Tryz.underlying24 hi hz0 hz1 hz2 rfl (by decide) _ _ _ rfl (hrow.alloc _) ⟨W.heap.size, 0, none⟩ 1 1 [Value.int .i64 x.r.num] rfl rfl (cell_one_new _ _ _) (by simp [Value.oneCell']) (by unfold maxLen; omega) (by omega) (by have := hB.size; simp; omega) ?_; intro v' w1 hown' hgrow _; obtain ⟨g', cap', rfl⟩ := ownsRow_succ hown'; obtain ⟨hv1, hv2, hr2, hk2, hb2⟩ := hv.appended (by decide) hrow hB.size (Nat.le_refl _) hown' hgrow; have hc1 := hv1.cell; have hf1 := hv1.frozen)
    exact ⟨hk2.from _, hk2.walks, ⟨_, hv2, by simpa using hr2, trivial⟩, hB.trans hb2⟩
  case done =>
    rintro D ys W hD hS ⟨⟨v, hv, hrow, _⟩, hB⟩ hK
    have hc := hv.cell
    gi_wp2
    refine ⟨by simp, .inl ⟨_, _, rfl, run_takeDeferred hK, ?_⟩⟩
    exact ⟨_, results_tmp rfl _ _ _, v, ys, rfl, hS, ownsRow_putObj hrow _ hK rfl, hB.trans (belowK_b (w := w) (Nat.le_refl _) W D _ _ (by simp at hD; omega) hK rfl rfl)⟩
  case stop =>
    rintro D c pre W _ _ h _
    exact h.elim

set_option maxRecDepth 100000 in
/-- slices.Collect(seq). -/
theorem collect_inK (F : Fence) (n : Nat) (hf : F.fn 105) (hf2 : F.fn 121) (hg : F.fn 107) (hro : F.round = none) (hn : 4 ≤ n) (Bm : Nat) (S : List Ent → Prop) (N : Nat) (hN : N ≤ 1000000)
    (w : World) (hs : SeqStopsK F (n - 1 - 1) Tryz.prog 107 #[ptr Bm] (fun e : Ent => #[Value.int .i64 e.r.num]) KeepsWalks S (fun _ => True) N w) :
    CallsIn F n Tryz.prog 105 #[.func (.func 107) #[] #[ptr Bm]] w fun e W' =>
      ∃ v vs, e = .returned v ∧ S vs ∧ W'.ownsRow w.heap.size 3 1 v vs.length (vs.map fun e => Value.int .i64 e.r.num) ∧ Below w.heap.size w W' := by
  have h1 : 1 ≤ n := by omega
  refine callsIn_of_wp Tryz.func105 rfl hf ?_ hro
  simp only [Tryz.ntmps105, List.size_toArray, List.length_cons, List.length_nil, Nat.reduceAdd, Nat.reduceSub, Array.replicate_succ, Array.replicate_zero, List.push_toArray, List.append_toArray, List.nil_append, List.cons_append]
  have HS := Lib.hid hs
  clear hs
  gi_wp2_with (gi_at_call 121; refine (appendSeq_inK F (n - 1) hf2 hg hro (by omega) Bm S N hN _ HS.out).mono ?_; rintro e w' ⟨v, vs, rfl, hS, hrow, hb⟩)
  go_ret
  exact ⟨v, vs, rfl, hS, hrow, hb⟩
/-- The same, without a fence, at maps.Keys of the table's map. -/
theorem collect_anyK (Bm mb clock : Nat) (es : List Ent) (w : World) (hlen : es.length ≤ 1000000) (hm : w.cell? ⟨Bm, 0, none⟩ = some (.map (some mb))) (hmap : w.heap[mb]? = some (mapObj es clock)) (hb : ∀ e ∈ es, e.born < clock) (hnd : (es.map Ent.born).Nodup) :
    Calls Tryz.prog 105 #[.func (.func 107) #[] #[ptr Bm]] w fun e W' =>
      ∃ (v : Value) (vs : List Ent), e = .returned v ∧ vs.Perm es ∧ W'.ownsRow w.heap.size 3 1 v vs.length (vs.map fun e => Value.int .i64 e.r.num) ∧ Below w.heap.size w W' :=
  (callsIn_wide (n := 6)).1 (collect_inK Fence.wide 6 trivial trivial trivial rfl (by omega) Bm _ es.length hlen w
    (keys_stops Fence.wide (6 - 1 - 1) trivial rfl (by omega) Bm mb clock es w (lt_of_cell hm) hm hmap hb hnd))
end Go.Proofs.YticobikhndlejaaGreatDoor

/- Waiting by contract. -/
namespace Go.Proofs.YticobikhndlejaaGreatDoor
open Go.RowKit Go.Shelf Go.Lib Go.Sort

theorem sorted_ints {l m : List Int} (hp : l.Perm m) (hl : l.Pairwise (· ≤ ·)) (hm : m.Pairwise (· < ·)) : l = m :=
  List.Perm.eq_of_pairwise (le := fun a b : Int => a ≤ b) (fun a b _ _ h1 h2 => by omega) hl (hm.imp fun h => by omega) hp
set_option maxRecDepth 100000 in
set_option maxHeartbeats 1000000 in
theorem sortedK_any (Bm mb clock : Nat) (es : List Ent) (w : World) (hlen : es.length ≤ 1000000) (hm : w.cell? ⟨Bm, 0, none⟩ = some (.map (some mb))) (hmap : w.heap[mb]? = some (mapObj es clock)) (hb : ∀ e ∈ es, e.born < clock) (hnd : (es.map Ent.born).Nodup)
    (hok : EntsOk es) :
    Calls Tryz.prog 73 #[.func (.func 107) #[] #[ptr Bm]] w fun e w' =>
      ∃ v : Value, e = .returned v ∧ w'.ownsRow w.heap.size 3 1 v es.length (es.map fun e => .int .i64 e.r.num) ∧ Below w.heap.size w w' := by
  have HC := Lib.hid (collect_anyK Bm mb clock es w hlen hm hmap hb hnd)
  clear hm hmap hb
  go_enter Tryz.func73, Tryz.ntmps73
  go_wp2_with fail
  refine HC.out.mono ?_
  rintro e w1 ⟨v, vs, rfl, hp, hrow, hbel⟩
  rcases hrow.2 with ⟨rfl, hz⟩ | ⟨g, cap, cur, rfl, hbase, hgb, r1, r2, r3, r4⟩
  · have hvs : vs = [] := List.eq_nil_of_length_eq_zero hz
    subst hvs
    have hes : es = [] := hp.symm.eq_nil
    subst hes
    go_wp2_with fail
    refine (Tryz.slices_Sort_int_none none 0 w1).mono ?_
    rintro e w2 ⟨rfl, rfl⟩
    go_wp2
    go_ret
    exact ⟨_, rfl, World.ownsRow_nil _ _ _ _, hbel⟩
  · obtain ⟨D, hD⟩ : ∃ D : List Int, vs.map (·.r.num) = D := ⟨_, rfl⟩
    have hlD : D.length = vs.length := by rw [← hD]; simp
    have hDm : vs.map (fun e => Value.int .i64 e.r.num) = D.map (Value.int .i64) := by rw [← hD, List.map_map]; rfl
    rw [hDm, ← hlD, Nat.mul_one] at r4
    rw [← hlD] at r1
    have hH : Holds (Value.int .i64) w1 g 0 D.toArray := holds_of_blockE hgb r4
    have hle := hp.length_eq
    have hsz : D.length < 4611686018427387904 := by omega
    have hgl : g < w1.heap.size := lt_of_heap hgb
    have hc := Tryz.slices_Sort_int g 0 cap D w1 hH hgl hsz
    have hfin : (D.mergeSort fun x y => decide (x ≤ y)) = es.map (·.r.num) := by
      refine sorted_ints ((List.mergeSort_perm D _).trans (by rw [← hD]; exact hp.map _)) ?_ (List.pairwise_map.2 hok.nums)
      have := List.pairwise_mergeSort (le := fun x y : Int => decide (x ≤ y)) (fun a b c hab hbc => by simp at *; omega) (fun a b => by simp; omega) D
      exact this.imp fun h => by simpa using h
    have HCs := Lib.hid hc
    have HF := Lib.hid hfin
    have hlen2 : vs.length = D.length := hlD.symm
    have HL := Lib.hid hlen2
    have hne : es.length = D.length := by omega
    have HN := Lib.hid hne
    clear hc hfin hrow hp hD hDm hlD hlen2 hne r4 hH hle
    go_wp2_with fail
    rw [HL.out]
    refine HCs.out.mono ?_
    rintro e w2 ⟨rfl, n, os, hw2⟩
    have hrow2 : w2.ownsRow w.heap.size 3 1 (.slice (some ⟨g, 0, none⟩) D.length cap) D.length ((D.mergeSort fun x y => decide (x ≤ y)).map (Value.int .i64)) := by
      rw [hw2]; exact ownsRow_sortedE (by simp) hbase hgb r1 r2 r3
    have hb2 : Below w.heap.size w w2 := by rw [hw2]; exact hbel.grown (grownBy_sortedE _) hbel.size (fun k e => by cases e; exact hbase)
    have HR2 := Lib.hid hrow2
    clear hrow2 hw2
    go_wp2
    go_ret
    refine ⟨_, rfl, ?_, hb2⟩
    have := HR2.out
    rw [HF.out, List.map_map] at this
    rw [HN.out]
    exact this
theorem Tryz.infoI2 : (Tryz.prog.info? 3).map (fun i => (i.zero, i.size, i.bytes)) = some (some (.int .i64 0), 1, 8) := by kernel_rfl
def waitE (es : List Ent) : List Int := (es.filter fun e => e.r.state == 0).map (·.r.num)
theorem row_at {w : World} {base n : Nat} {a : Option Addr} {c : Nat} {t : TypeId} {xs : List Value} (h : w.ownsRow base t 1 (.slice a n c) n xs) {j : Nat} {x : Value} (hj : xs[j]? = some x) (hn : xs.length = n) : ∃ g, a = some ⟨g, 0, none⟩ ∧ g < w.heap.size ∧ base ≤ g ∧ w.cell? ⟨g, j, none⟩ = some x := by
  have hjl := (List.getElem?_eq_some_iff.1 hj).1
  rcases h.2 with ⟨_, h0⟩ | ⟨g, cap, cur, e, hb, h3, h4, h5, h6, h7⟩
  · omega
  · simp only [Value.slice.injEq] at e
    obtain ⟨rfl, _, rfl⟩ := e
    refine ⟨g, rfl, lt_of_heap h3, hb, cell_of h3 ?_⟩
    rw [← h7, List.getElem?_take_of_lt (by omega)] at hj
    rw [← Array.getElem?_toList]; exact hj

set_option maxRecDepth 100000 in
set_option maxHeartbeats 1000000 in
theorem twaiting_any (tb mb clock : Nat) (last held : Int) (es : List Ent) (w : World) (h : TabB w tb mb clock last held es) :
    Calls Tryz.prog 41 #[ptr tb] w fun x w' => ∃ v, x = .returned v ∧ w'.ownsRow w.heap.size 3 1 v (waitE es).length ((waitE es).map fun n => Value.int .i64 n) ∧ Below w.heap.size w w' := by
  have c0 := h.c0
  have hb : Below w.heap.size w (w.alloc (.cells #[.map (some mb)] 146)) := (Below.refl _ w).alloc (Nat.le_refl _) _
  have h1 := h.below hb
  have HC := Lib.hid (sortedK_any w.heap.size mb clock es _ h1.len (cell_new (w := w) (c := #[.map (some mb)]) (t := 146) rfl) h1.map h1.born h1.borns h1.ok)
  have hV := (callsIn_wide (n := 6)).1 (keys_in Fence.wide 6 trivial rfl (some mb) w)
  have HV := Lib.hid hV
  have HT := Lib.hid h
  obtain ⟨n, hn⟩ : ∃ n, es.length = n := ⟨_, rfl⟩
  obtain ⟨i0, hi, hz0, hz1, hz2⟩ := info_parts Tryz.infoI2
  have hlen := h.len
  clear h h1 hV
  go_enter Tryz.func41, Tryz.ntmps41
  go_wp2_with fail
  refine HV.out.mono ?_
  rintro e w1 ⟨rfl, rfl⟩
  go_wp2_with fail
  refine HC.out.mono ?_
  rintro e w1 ⟨v, rfl, hrow, hbel⟩
  rw [hn] at hrow
  obtain ⟨va, vc, rfl⟩ := own_slice hrow
  have hbw : Below w.heap.size w w1 := hb.trans (hbel.mono (by simp))
  have HR := Lib.hid hrow
  have HBW := Lib.hid hbw
  clear hrow hbel hbw
  go_wp2_with fail
  go_loopg [3, 13] n (fun k out i wr => ∃ (j : Nat), k = n - j ∧ j ≤ n ∧ i = .int .i64 j ∧ wr.ownsRow w1.heap.size 3 1 out (waitE (es.take j)).length ((waitE (es.take j)).map fun n => Value.int .i64 n) ∧ Below w1.heap.size w1 wr)
  case atStart => exact ⟨0, by simp, by omega, rfl, by simpa [waitE] using World.ownsRow_nil _ _ _ _, Below.refl _ _⟩
  case round =>
    obtain ⟨j, rfl, hj, rfl, hrow, hB⟩ := hrel
    by_cases hlt : j < n
    · have hltI : (j : Int) < (n : Int) := by omega
      obtain ⟨e, he⟩ : ∃ e, es[j]? = some e := ⟨_, List.getElem?_eq_getElem (by omega)⟩
      have hem : e ∈ es := List.mem_of_getElem? he
      have hrw : wr.ownsRow (w.alloc (.cells #[.map (some mb)] 146)).heap.size 3 1 (.slice va n vc) n (es.map fun e => Value.int .i64 e.r.num) := ownsRow_chg HR.out (chgB hB fun _ => False) fun _ _ x => x
      obtain ⟨g, rfl, hgl, _, hcell⟩ := row_at hrw (j := j) (x := .int .i64 e.r.num) (by rw [List.getElem?_map, he]; rfl) (by simp [hn])
      have hT := HT.out.below (HBW.out.trans (hB.mono HBW.out.size))
      have t0 := hT.c0
      have hlk := (hT.look hem).2
      have hreq := hT.reqs e hem
      have a7 := hreq.at.c7
      have htk : waitE (es.take (j + 1)) = waitE (es.take j) ++ (if e.r.state == 0 then [e.r.num] else []) := by
        obtain ⟨h1, h2⟩ := List.getElem?_eq_some_iff.1 he
        unfold waitE
        rw [List.take_succ_eq_append_getElem h1, h2, List.filter_append, List.map_append]
        congr 1
        cases hs : (e.r.state == 0) <;> simp [hs]
      have hwl : (waitE (es.take j)).length ≤ j := by
        unfold waitE
        rw [List.length_map]
        refine Nat.le_trans (List.length_filter_le _ _) ?_
        rw [List.length_take]
        exact Nat.min_le_left _ _
      have HTK := Lib.hid htk
      clear hrw htk he hem hT hreq
      cases hs : (e.r.state == 0) with
      | false =>
        go_wp2_with fail
        go_roundg (n - (j + 1))
        case measure => omega
        case rel => exact ⟨j + 1, rfl, by omega, by go_num, by rw [HTK.out, hs]; simpa using hrow, hB⟩
      | true =>
        have hsz := hB.size
        obtain ⟨m, hm⟩ : ∃ m, (waitE (es.take j)).length = m := ⟨_, rfl⟩
        rw [hm] at hrow hwl
        have HM := Lib.hid hm
        clear hm
        go_wp2_with (at_builtin; refine wpList_append_own _ rfl _ _ 24 rfl w1.heap.size 3 i0 (.int .i64 0) 1 8 Tryz.underlying24 hi hz0 hz1 hz2 rfl (by decide) _ _ _ rfl (hrow.alloc _) ⟨wr.heap.size, 0, none⟩ 1 1 [.int .i64 e.r.num] rfl rfl (World.news_of_block (World.alloc_heap_new wr _)) (by simp [Value.oneCell']) ?_ ?_ ?_ ?_)
        · unfold maxLen; omega
        · omega
        · simp; omega
        intro v' w3 hown' hgrow _
        have hB3 : Below w1.heap.size w1 w3 := (hB.alloc hB.size _).grown hgrow (by simp; omega) (fun k ek => (hrow.lt k ek).1)
        have HO := Lib.hid hown'
        clear hown' hgrow hrow
        go_wp2
        go_roundg (n - (j + 1))
        case measure => omega
        case rel => exact ⟨j + 1, rfl, by omega, by go_num, by rw [HTK.out, hs, if_pos rfl, List.length_append, List.map_append, HM.out]; exact HO.out, hB3⟩
    · obtain rfl : j = n := by omega
      have hall : es.take j = es := List.take_of_length_le (by omega)
      rw [hall] at hrow
      have HO := Lib.hid hrow
      clear hrow hall
      go_wp2
      go_ret
      exact ⟨_, rfl, ownsRow_low HO.out HBW.out.size, HBW.out.trans (hB.mono HBW.out.size)⟩

set_option maxRecDepth 100000 in
theorem waiting_any (q : Nat) (s : Sta) (F : Nat → Prop) (w : World) (h : QAt w q s F) :
    Calls Tryz.prog 20 #[ptr q] w fun x w' => ∃ v, x = .returned v ∧ w'.ownsRow w.heap.size 3 1 v (waitE s.es).length ((waitE s.es).map fun n => Value.int .i64 n) ∧ Below w.heap.size w w' := by
  obtain ⟨tb, mb, clock, fv, hq, hF⟩ := h
  have c1 := hq.c1
  have HW := Lib.hid (twaiting_any tb mb clock s.last s.held s.es w hq.tab)
  clear hq hF
  go_enter Tryz.func20, Tryz.ntmps20
  go_wp2_with fail
  refine HW.out.mono ?_
  rintro x w1 ⟨v, rfl, h1, h2⟩
  have H1 := Lib.hid h1
  clear h1
  go_wp2_with fail
  go_ret
  exact ⟨v, rfl, H1.out, h2⟩
end Go.Proofs.YticobikhndlejaaGreatDoor

/- The document's queue in memory: its blocks, and what it finds by reading alone. -/
namespace Go.Proofs.YticobikhndlejaaGreatDoor
open Go.RowKit Go.Shelf Go.Lib

/-- The queue at q: its requests l, the numbers told, its commands fs; the values of its four rows. -/
structure RB (w : World) (q : Nat) (t : St) (l : List RR) (told : List Int) (fs : List (Cmd × Value)) (rv tv fv dv : Value) : Prop where
  que : w.heap[q]? = some (.cells #[.int .i64 t.depth, rv, tv, fv, .int .i64 t.now, .int .i64 t.head, .int .i64 t.last, dv] 119 (0, 0))
  reqs : w.ownsRow 0 191 10 rv l.length (l.flatMap rrCells)
  tol : w.ownsRow 0 3 1 tv told.length (told.map fun n => Value.int .i64 n)
  fls : CmdsAt w 0 fv fs
  fcs : fs.map (·.1) = t.cs
  dsk : w.ownsRow 0 5 1 dv 64 (t.disk.map fun b => Value.int .u8 b)
  tf : ∀ c ∈ fs, ∀ k, tv.ownBlock = some k → c.2.ownBlock ≠ some k
/-- Its blocks. -/
def RFoot (q : Nat) (rv tv fv dv : Value) (fs : List (Cmd × Value)) (k : Nat) : Prop := k = q ∨ rv.ownBlock = some k ∨ tv.ownBlock = some k ∨ fv.ownBlock = some k ∨ dv.ownBlock = some k ∨ ∃ c ∈ fs, c.2.ownBlock = some k
section
variable {w W : World} {q : Nat} {t : St} {l : List RR} {told : List Int} {fs : List (Cmd × Value)} {rv tv fv dv : Value}
theorem RB.kept (h : RB w q t l told fs rv tv fv dv) {S : Nat → Prop} (hc : Chg S w W) (hn : ∀ k, RFoot q rv tv fv dv fs k → ¬ S k) : RB W q t l told fs rv tv fv dv :=
  ⟨(hc.block _ (lt_of_heap h.que) (hn _ (.inl rfl))).trans h.que, ownsRow_chg h.reqs hc fun k hk => hn k (.inr (.inl hk)), ownsRow_chg h.tol hc fun k hk => hn k (.inr (.inr (.inl hk))),
   ⟨ownsRow_chg h.fls.row hc fun k hk => hn k (.inr (.inr (.inr (.inl hk)))), fun c hc' => ownsRow_chg (h.fls.rows c hc') hc fun k hk => hn k (.inr (.inr (.inr (.inr (.inr ⟨c, hc', hk⟩))))), h.fls.apart⟩, h.fcs,
   ownsRow_chg h.dsk hc fun k hk => hn k (.inr (.inr (.inr (.inr (.inl hk))))), h.tf⟩
theorem RB.below (h : RB w q t l told fs rv tv fv dv) (hb : Below w.heap.size w W) : RB W q t l told fs rv tv fv dv := h.kept (chgB hb fun _ => False) fun _ _ x => x
theorem RB.lt (h : RB w q t l told fs rv tv fv dv) {k : Nat} (hk : RFoot q rv tv fv dv fs k) : k < w.heap.size := by
  have g : ∀ {b : Nat} {ty : TypeId} {sz n : Nat} {v : Value} {xs : List Value}, w.ownsRow b ty sz v n xs → v.ownBlock = some k → k < w.heap.size := fun hr he => by
    obtain ⟨cur, hcur⟩ := own_heap hr he
    exact lt_of_heap hcur
  rcases hk with rfl | hk | hk | hk | hk | ⟨c, hc, hk⟩
  · exact lt_of_heap h.que
  · exact g h.reqs hk
  · exact g h.tol hk
  · exact g h.fls.row hk
  · exact g h.dsk hk
  · exact g (h.fls.rows c hc) hk
theorem RB.c0 (h : RB w q t l told fs rv tv fv dv) : w.cell? ⟨q, 0, none⟩ = some (.int .i64 t.depth) := cell_of h.que rfl
theorem RB.c1 (h : RB w q t l told fs rv tv fv dv) : w.cell? ⟨q, 1, none⟩ = some rv := cell_of h.que rfl
theorem RB.c2 (h : RB w q t l told fs rv tv fv dv) : w.cell? ⟨q, 2, none⟩ = some tv := cell_of h.que rfl
theorem RB.c3 (h : RB w q t l told fs rv tv fv dv) : w.cell? ⟨q, 3, none⟩ = some fv := cell_of h.que rfl
theorem RB.c4 (h : RB w q t l told fs rv tv fv dv) : w.cell? ⟨q, 4, none⟩ = some (.int .i64 t.now) := cell_of h.que rfl
theorem RB.c5 (h : RB w q t l told fs rv tv fv dv) : w.cell? ⟨q, 5, none⟩ = some (.int .i64 t.head) := cell_of h.que rfl
theorem RB.c6 (h : RB w q t l told fs rv tv fv dv) : w.cell? ⟨q, 6, none⟩ = some (.int .i64 t.last) := cell_of h.que rfl
theorem RB.c7 (h : RB w q t l told fs rv tv fv dv) : w.cell? ⟨q, 7, none⟩ = some dv := cell_of h.que rfl
theorem RB.free (h : RB w q t l told fs rv tv fv dv) (i : Nat) : w.frozen? ⟨q, i, none⟩ = false := free_of h.que
/-- One of its requests, cell by cell. -/
theorem RB.req (h : RB w q t l told fs rv tv fv dv) {k : Nat} {x : RR} (hk : l[k]? = some x) : ∃ g cap, rv = .slice (some ⟨g, 0, none⟩) l.length cap ∧ g < w.heap.size ∧ (∃ cur, w.heap[g]? = some (.cells cur 191 (0, 0)) ∧ l.length ≤ cap ∧ cap ≤ maxLen ∧ cur.size = cap * 10 ∧ cur.toList.take (l.length * 10) = l.flatMap rrCells) ∧
    ∀ i v, (rrCells x)[i]? = some v → w.cell? ⟨g, k * 10 + i, none⟩ = some v := by
  have hkl := (List.getElem?_eq_some_iff.1 hk).1
  rcases h.reqs.2 with ⟨_, h0⟩ | ⟨g, cap, cur, e, hb, h3, h4, h5, h6, h7⟩
  · omega
  · refine ⟨g, cap, e, lt_of_heap h3, ⟨cur, h3, h4, h5, h6, h7⟩, fun i v hv => cell_of h3 ?_⟩
    have hi : i < 10 := (List.getElem?_eq_some_iff.1 hv).1
    have h1 := rr_at hk i v hv
    rw [← h7, List.getElem?_take_of_lt (by omega)] at h1
    rw [← Array.getElem?_toList]; exact h1
end
theorem told_take {told : List Int} {n x : Int} {i : Nat} (hx : told[i]? = some x) (h : n ∉ told.take i) (hne : x ≠ n) : n ∉ told.take (i + 1) := by
  obtain ⟨hl, e⟩ := List.getElem?_eq_some_iff.1 hx
  rw [List.take_succ_eq_append_getElem hl, e]
  simp only [List.mem_append, List.mem_singleton]
  rintro (hm | hm)
  · exact h hm
  · exact hne hm.symm
set_option maxRecDepth 100000 in
set_option maxHeartbeats 1000000 in
theorem isTold_r (n : Int) (w : World) {q : Nat} {t : St} {l : List RR} {told : List Int} {fs : List (Cmd × Value)} {rv tv fv dv : Value} (h : RB w q t l told fs rv tv fv dv) (hlen : told.length ≤ 1000000) :
    Calls Tryz.prog 112 #[ptr q, .int .i64 n] w fun x w' => x = .returned (.bool (decide (n ∈ told))) ∧ Below w.heap.size w w' := by
  obtain ⟨ta, tc, rfl⟩ := own_slice h.tol
  obtain ⟨m, hm⟩ : ∃ m, told.length = m := ⟨_, rfl⟩
  rw [hm] at h hlen
  have c2 := h.c2
  have HR := Lib.hid h
  clear h
  go_enter Tryz.func112, Tryz.ntmps112
  go_wp2_with fail
  go_loopg [5] m (fun k i wr => ∃ (j : Nat), k = m - j ∧ j ≤ m ∧ i = .int .i64 j ∧ n ∉ told.take j ∧ Below w.heap.size w wr)
  case atStart => exact ⟨0, by simp, by omega, rfl, by simp, Below.refl _ _⟩
  case round =>
    obtain ⟨j, rfl, hj, rfl, hno, hB⟩ := hrel
    have hR := HR.out.below hB
    have d2 := hR.c2
    by_cases hlt : j < m
    · have hltI : (j : Int) < (m : Int) := by omega
      obtain ⟨x, hx⟩ : ∃ x, told[j]? = some x := ⟨_, List.getElem?_eq_getElem (by omega)⟩
      have hrow := hR.tol
      rw [hm] at hrow
      obtain ⟨g, rfl, hgl, _, hcell⟩ := row_at hrow (j := j) (x := .int .i64 x) (by rw [List.getElem?_map, hx]; rfl) (by simp [hm])
      have HNO := Lib.hid hno
      clear hR hrow hno
      by_cases he : x = n
      · subst he
        go_wp2_with fail
        go_ret
        exact ⟨by simp [List.mem_of_getElem? hx], hB⟩
      · go_wp2_with fail
        go_roundg (m - (j + 1))
        case measure => omega
        case rel => exact ⟨j + 1, rfl, by omega, by go_num, told_take hx HNO.out he, hB⟩
    · obtain rfl : j = m := by omega
      have hall : n ∉ told := by rw [List.take_of_length_le (by omega)] at hno; exact hno
      clear hR hno
      go_wp2_with fail
      go_ret
      exact ⟨by simp [hall], hB⟩
end Go.Proofs.YticobikhndlejaaGreatDoor
