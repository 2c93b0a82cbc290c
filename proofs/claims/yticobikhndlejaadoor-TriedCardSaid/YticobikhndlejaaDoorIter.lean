/- maps.Values over the table's map, slices.AppendSeq, slices.Collect: by contracts inside a fence. (After the kit's worked texts on ranges over functions.) -/
import Derived.Test.YticobikhndlejaaDoorMap
import Derived.RangeFuncBox
import Derived.RangeFuncNested
import Derived.RangeFuncBound
import Derived.RangeFuncCalls
import Derived.RangeFuncLeaves
import Derived.Shelf.Abstract
import Derived.OwnWalkIn
import Derived.TacticsInMore
import Derived.LoopNIn
import Derived.LoopIn
import Derived.Maps.AppendAt
namespace Go.Proofs.YticobikhndlejaaDoor
open Go.RowKit Go.Shelf

attribute [local go_sem] Oper.semAt_some

/-- how many entries are still to come, read off the world -/
def iterLeft (n it : Nat) (w : World) : Nat :=
  match w.heap[it]? with
  | some (.mapIter _ _ seen _) => n - seen.size
  | _ => 0
theorem iterLeft_eq {n it mb clock : Nat} {seen : List Nat} {w : World} (h : w.heap[it]? = some (iterObj mb clock seen)) : iterLeft n it w = n - seen.length := by
  simp [iterLeft, h]
theorem nodup_of_born {es : List Ent} (h : (es.map Ent.born).Nodup) : es.Nodup := (List.pairwise_map.1 h).imp fun hne heq => hne (by rw [heq])
theorem left_perm {es vs : List Ent} (hv : ∀ v ∈ vs, v ∈ es) (hnd : (es.map Ent.born).Nodup) (hvn : (vs.map Ent.born).Nodup) (hl : leftOf es (vs.map Ent.born) = []) : vs.Perm es := by
  have hes : es.Nodup := nodup_of_born hnd
  have hvs : vs.Nodup := nodup_of_born hvn
  refine (List.perm_ext_iff_of_nodup hvs hes).2 fun a => ⟨hv a, fun ha => ?_⟩
  by_cases hc : a.born ∈ vs.map Ent.born
  · obtain ⟨b, hb, hbe⟩ := List.mem_map.1 hc
    have : b = a := by
      have h1 := find_born es (hv b hb) hnd
      have h2 := find_born es ha hnd
      rw [hbe] at h1
      rw [h1] at h2
      exact Option.some.inj h2
    exact this ▸ hb
  · exfalso
    have : a ∈ leftOf es (vs.map Ent.born) := List.mem_filter.2 ⟨ha, by simpa using hc⟩
    rw [hl] at this; cases this
theorem len_lt_of_left {es vs : List Ent} {e : Ent} (hv : ∀ v ∈ vs, v ∈ es) (hvn : (vs.map Ent.born).Nodup) (he : e ∈ leftOf es (vs.map Ent.born)) : vs.length < es.length := by
  have hmem := (List.mem_filter.1 he).1
  have hnb : e.born ∉ vs.map Ent.born := by simpa using (List.mem_filter.1 he).2
  have hvs : vs.Nodup := nodup_of_born hvn
  have hne : e ∉ vs := fun h => hnb (List.mem_map_of_mem h)
  have : (e :: vs).length ≤ es.length := List.Nodup.length_le_of_subset (List.nodup_cons.2 ⟨hne, hvs⟩) (fun x hx => by cases hx with | head => exact hmem | tail _ h => exact hv x h)
  simp at this
  omega

set_option maxRecDepth 100000 in
set_option maxHeartbeats 1000000 in
/-- maps.Values's iterator over the table's map: every entry comes once, in some order. -/
theorem values1_in (F : Fence) (n : Nat) (hf : F.fn 59) (hro : F.round = none) (hn : 1 ≤ n) (l Bm mb clock : Nat) (es : List Ent) (J Jx : List Ent → World → Prop)
    (hY : ∀ pre x W, J pre W → pre.length < es.length → YieldAt F (n - 1) Tryd.prog l #[ptr x.p] W fun e W' =>
      (e = .returned (.bool true) ∧ J (pre ++ [x]) W' ∧ KeepsWalks W W') ∨ (e = .returned (.bool false) ∧ Jx (pre ++ [x]) W'))
    (W : World) (hJ : AbidesFrom W.heap.size J) (hm : W.cell? ⟨Bm, 0, none⟩ = some (.map (some mb))) (hmap : W.heap[mb]? = some (mapObj es clock)) (hb : ∀ e ∈ es, e.born < clock) (hnd : (es.map Ent.born).Nodup) (h0 : J [] W) :
    CallsIn F n Tryd.prog 59 #[.func (.yield l) #[] #[], ptr Bm] W fun e W' => (∃ v, e = .returned v) ∧
      ((∃ xs, xs.Perm es ∧ J xs W') ∨ (∃ pre, True ∧ Jx pre W')) := by
  have hml := lt_of_heap hmap
  have hrg := run_range_map (P := Tryd.prog) (w := W) Tryd.underlying119 hmap
  refine callsIn_of_wp Tryd.func59 rfl hf ?_ hro
  simp only [Tryd.ntmps59, List.size_toArray, List.length_cons, List.length_nil, Nat.reduceAdd, Nat.reduceSub, Array.replicate_succ, Array.replicate_zero, List.push_toArray, List.append_toArray, List.nil_append, List.cons_append]
  gi_wp2
  gi_loopw [4] (fun _ wr => ∃ vs : List Ent, wr.heap[W.heap.size]? = some (iterObj mb clock (vs.map Ent.born)) ∧ wr.heap[mb]? = some (mapObj es clock) ∧ (∀ v ∈ vs, v ∈ es) ∧ (vs.map Ent.born).Nodup ∧ J vs wr)
    (fun _ wr => iterLeft es.length W.heap.size wr)
  case atStart =>
    refine ⟨[], World.alloc_heap_new W _, (Below.heap_alloc _ _ _ hml).trans hmap, by simp, by simp, ?_⟩
    exact hJ [] W _ none h0 (World.grownBy_alloc W _ none) (fun r e => by cases e)
  case round =>
    obtain ⟨vs, hI, hM, hve, hvn, hJs⟩ := hrel
    by_cases hl : leftOf es (vs.map Ent.born) = []
    · have hnx := fun ty => next_over (P := Tryd.prog) ty _ _ hI hM hb hl
      have hp := left_perm hve hnd hvn hl
      gi_wp2
      go_end0
      exact ⟨⟨_, rfl⟩, .inl ⟨vs, hp, hJs⟩⟩
    · obtain ⟨e, he, w2, hnx, hw2⟩ := next_some (P := Tryd.prog) 0 _ _ hI hM hb hl
      have hlt := len_lt_of_left hve hvn he
      have hee := (List.mem_filter.1 he).1
      have hnb : e.born ∉ vs.map Ent.born := by simpa using (List.mem_filter.1 he).2
      have hml2 := lt_of_heap hM
      have hil := lt_of_heap hI
      have hI2 : w2.heap[W.heap.size]? = some (iterObj mb clock ((vs ++ [e]).map Ent.born)) := by
        rcases hw2 with rfl | rfl
        · rw [World.putObj_heap_same hil]; simp
        · rw [World.putObj_heap_same (by simpa using hil)]; simp
      have hM2 : w2.heap[mb]? = some (mapObj es clock) := by
        rcases hw2 with rfl | rfl <;> rw [World.putObj_heap_other (by omega)]
        · exact hM
        · exact hM
      have hg2 : wr.grownBy w2 (some W.heap.size) := by
        rcases hw2 with rfl | rfl
        · exact grownBy_putObj' _ _ _
        · exact ⟨rfl, rfl, rfl, by simp, fun k _ hk => World.putObj_heap_other (fun e => hk (by rw [e]))⟩
      have hJ2 : J vs w2 := hJ vs wr w2 (some W.heap.size) hJs hg2 (fun r e => by cases e; exact ⟨Nat.le_refl _, _, hI, rfl⟩)
      have hen := entry_run (P := Tryd.prog) (w := w2) _ _ (by simpa using hI2) hM2 hee hnd
      obtain ⟨fn, tmps, assign, body, hy, hR⟩ := hY vs e w2 hJ2 hlt
      clear hw2
      have HI2 := Lib.hid hI2
      have HM2 := Lib.hid hM2
      have HI := Lib.hid hI
      clear hI2 hM2 hI hM hmap hrg
      gi_wp2
      refine hR.mono ?_
      have hve' : ∀ v ∈ vs ++ [e], v ∈ es := fun v hv => (List.mem_append.1 hv).elim (hve v) (fun h => by simp at h; subst h; exact hee)
      have hvn' : ((vs ++ [e]).map Ent.born).Nodup := by
        rw [List.map_append]
        exact List.nodup_append.2 ⟨hvn, by simp, fun a ha b hb hab => by simp at hb; subst hb; exact hnb (hab ▸ ha)⟩
      rintro e' W3 (⟨rfl, hJ3, hk3⟩ | ⟨rfl, hJx3⟩)
      · gi_wp2
        have hI3 := hk3.same _ _ HI2.out rfl
        go_roundw
        case rel => exact ⟨vs ++ [e], hI3, hk3.same _ _ HM2.out rfl, hve', hvn', hJ3⟩
        case measure => rw [iterLeft_eq hI3, iterLeft_eq HI.out]; simp; omega
      · gi_wp2
        refine bodyPost_ret (results_none rfl _ _ _) rfl ?_
        exact ⟨⟨_, rfl⟩, .inr ⟨vs ++ [e], trivial, hJx3⟩⟩

/-- maps.Values(m): the map is boxed; the function value captures the box. -/
theorem values_in (F : Fence) (n : Nat) (hf : F.fn 50) (hro : F.round = none) (m : Option Nat) (w : World) :
    CallsIn F n Tryd.prog 50 #[.map m] w fun e w' => e = .returned (.func (.func 59) #[] #[ptr w.heap.size]) ∧ w' = w.alloc (.cells #[.map m] 119) := by
  refine callsIn_of_wp Tryd.func50 rfl hf ?_ hro
  simp only [Tryd.ntmps50, List.size_toArray, List.length_cons, List.length_nil, Nat.reduceAdd, Nat.reduceSub, Array.replicate_succ, Array.replicate_zero, List.push_toArray, List.append_toArray, List.nil_append, List.cons_append]
  gi_wp2
  go_ret
  exact ⟨rfl, rfl⟩
theorem values_stops (F : Fence) (n : Nat) (hf : F.fn 59) (hro : F.round = none) (hn : 1 ≤ n) (Bm mb clock : Nat) (es : List Ent) (w : World) (hBm : Bm < w.heap.size)
    (hm : w.cell? ⟨Bm, 0, none⟩ = some (.map (some mb))) (hmap : w.heap[mb]? = some (mapObj es clock)) (hb : ∀ e ∈ es, e.born < clock) (hnd : (es.map Ent.born).Nodup) :
    SeqStopsK F n Tryd.prog 59 #[ptr Bm] (fun e : Ent => #[ptr e.p]) KeepsWalks (fun xs => xs.Perm es) (fun _ => True) es.length w := fun l J Jx W hW hJ _ hY h0 =>
  values1_in F n hf hro hn l Bm mb clock es J Jx hY W hJ ((hW.cell (p := ⟨Bm, 0, none⟩) hBm).trans hm) ((hW.block mb (lt_of_heap hmap)).trans hmap) hb hnd h0

theorem Tryd.infoP : (Tryd.prog.info? 78).map (fun i => (i.zero, i.size, i.bytes)) = some (some (.pointer none), 1, 8) := by kernel_rfl

set_option maxRecDepth 100000 in
set_option maxHeartbeats 2000000 in
/-- slices.AppendSeq(nil, seq): a slice of the call's own that holds what came. -/
theorem appendSeq_in (F : Fence) (n : Nat) (hf : F.fn 62) (hg : F.fn 59) (hro : F.round = none) (hn : 3 ≤ n) (Bm : Nat) (S : List Ent → Prop) (N : Nat) (hN : N ≤ 1000000)
    (w : World) (hs : SeqStopsK F (n - 1) Tryd.prog 59 #[ptr Bm] (fun e : Ent => #[ptr e.p]) KeepsWalks S (fun _ => True) N w) :
    CallsIn F n Tryd.prog 62 #[.slice none 0 0, .func (.func 59) #[] #[ptr Bm]] w fun e W' =>
      ∃ v vs, e = .returned v ∧ S vs ∧ W'.ownsRow w.heap.size 78 1 v vs.length (vs.map fun e => ptr e.p) ∧ Below w.heap.size w W' := by
  have h1 : 1 ≤ n := by omega
  obtain ⟨i0, hi, hz0, hz1, hz2⟩ := info_parts Tryd.infoP
  refine callsIn_of_wp_marks Tryd.func62 rfl hf ?_ hro
  simp only [Tryd.ntmps62, List.size_toArray, List.length_cons, List.length_nil, Nat.reduceAdd, Nat.reduceSub, Array.replicate_succ, Array.replicate_zero, List.push_toArray, List.append_toArray, List.nil_append, List.cons_append]
  have HS := Lib.hid hs
  clear hs
  gi_wp2
  have bO := Boxed.new w 71 (.slice none 0 0)
  have hB0 : Below w.heap.size w (w.alloc (.cells #[.slice none 0 0] 71)) := (Below.refl _ w).alloc (Nat.le_refl _) _
  refine wpIn_rangeFunc_ownG hro h1 (gf := 59) (lb := #[ptr Bm]) rfl hg (enters_of Tryd.func59 (by kernel_rfl) rfl)
    (fun l J Jx W' hW hJ hJx hY h0 => HS.out l J Jx W' (hB0.trans (hW.mono hB0.size)) hJ hJx hY h0) walksK_t walksK_b (Below.refl _ _) (fun _ => rfl)
    (fun (pre : List Ent) W => (∃ v, Boxed W w.heap.size 71 v ∧ W.ownsRow w.heap.size 78 1 v pre.length (pre.map fun e : Ent => ptr e.p) ∧ True) ∧ Below w.heap.size w W)
    (fun _ _ _ => False)
    (OwnFrom.and (Own.from (holdsRow_own w.heap.size w.heap.size 71 78 1 (fun pre : List Ent => pre.length) (fun pre : List Ent => pre.map fun e => ptr e.p) (fun (_ : List Ent) _ => True)) _) (ownFrom_below (Nat.le_refl _) (by simp)))
    (fun _ _ _ _ _ hs _ _ => hs)
    ⟨⟨_, bO, World.ownsRow_nil _ _ _ _, trivial⟩, hB0⟩
    (fun x : Ent => { tmps := #[.slice none 0 0, .func (.func 59) #[] #[ptr Bm], ptr w.heap.size, undef, .slice none 0 0, ptr x.p, .func (.func 59) #[] #[ptr Bm], ptr x.p, undef, undef, undef, undef, undef], defers := [] }) ?assign ?body ?done ?stop
  case assign =>
    intro l x W K hK
    gi_wp2
    exact hK
  case body =>
    rintro l pre x W ⟨⟨v, hv, hrow, _⟩, hB⟩ hlt
    have hc := hv.cell
    gi_wp2_with (gi_at_builtin; refine wpListIn_append_own _ rfl _ _ 71 rfl w.heap.size 78 i0 (.pointer none) 1 8 Tryd.underlying71 hi hz0 hz1 hz2 rfl (by decide) _ _ _ rfl (hrow.alloc _) ⟨W.heap.size, 0, none⟩ 1 1 [ptr x.p] rfl rfl (cell_one_new _ _ _) (by simp [Value.oneCell']) (by unfold maxLen; omega) (by omega) (by have := hB.size; simp; omega) ?_; intro v' w1 hown' hgrow _; obtain ⟨g', cap', rfl⟩ := ownsRow_succ hown'; obtain ⟨hv1, hv2, hr2, hk2, hb2⟩ := hv.appended (by decide) hrow hB.size (Nat.le_refl _) hown' hgrow; have hc1 := hv1.cell; have hf1 := hv1.frozen)
    exact ⟨hk2.from _, hk2.walks, ⟨_, hv2, by simpa using hr2, trivial⟩, hB.trans hb2⟩
  case done =>
    rintro D ys W hD hS ⟨⟨v, hv, hrow, _⟩, hB⟩ hK
    have hc := hv.cell
    gi_wp2
    refine ⟨by simp, .inl ⟨_, _, rfl, run_takeDeferred hK, ?_⟩⟩
    exact ⟨_, results_tmp rfl _ _ _, v, ys, rfl, hS, ownsRow_putObj hrow _ hK rfl, hB.trans (belowK_b (w := w) (Nat.le_refl _) W D _ _ (by simp at hD; omega) hK rfl rfl)⟩
  case stop =>
    rintro D c pre W _ _ h _
    exact h.elim

set_option maxRecDepth 100000 in
/-- slices.Collect(seq). -/
theorem collect_in (F : Fence) (n : Nat) (hf : F.fn 57) (hf2 : F.fn 62) (hg : F.fn 59) (hro : F.round = none) (hn : 4 ≤ n) (Bm : Nat) (S : List Ent → Prop) (N : Nat) (hN : N ≤ 1000000)
    (w : World) (hs : SeqStopsK F (n - 1 - 1) Tryd.prog 59 #[ptr Bm] (fun e : Ent => #[ptr e.p]) KeepsWalks S (fun _ => True) N w) :
    CallsIn F n Tryd.prog 57 #[.func (.func 59) #[] #[ptr Bm]] w fun e W' =>
      ∃ v vs, e = .returned v ∧ S vs ∧ W'.ownsRow w.heap.size 78 1 v vs.length (vs.map fun e => ptr e.p) ∧ Below w.heap.size w W' := by
  have h1 : 1 ≤ n := by omega
  refine callsIn_of_wp Tryd.func57 rfl hf ?_ hro
  simp only [Tryd.ntmps57, List.size_toArray, List.length_cons, List.length_nil, Nat.reduceAdd, Nat.reduceSub, Array.replicate_succ, Array.replicate_zero, List.push_toArray, List.append_toArray, List.nil_append, List.cons_append]
  have HS := Lib.hid hs
  clear hs
  gi_wp2_with (gi_at_call 62; refine (appendSeq_in F (n - 1) hf2 hg hro (by omega) Bm S N hN _ HS.out).mono ?_; rintro e w' ⟨v, vs, rfl, hS, hrow, hb⟩)
  go_ret
  exact ⟨v, vs, rfl, hS, hrow, hb⟩
/-- The same, without a fence, at maps.Values of the table's map. -/
theorem collect_any (Bm mb clock : Nat) (es : List Ent) (w : World) (hlen : es.length ≤ 1000000) (hm : w.cell? ⟨Bm, 0, none⟩ = some (.map (some mb))) (hmap : w.heap[mb]? = some (mapObj es clock)) (hb : ∀ e ∈ es, e.born < clock) (hnd : (es.map Ent.born).Nodup) :
    Calls Tryd.prog 57 #[.func (.func 59) #[] #[ptr Bm]] w fun e W' =>
      ∃ (v : Value) (vs : List Ent), e = .returned v ∧ vs.Perm es ∧ W'.ownsRow w.heap.size 78 1 v vs.length (vs.map fun e => ptr e.p) ∧ Below w.heap.size w W' :=
  (callsIn_wide (n := 6)).1 (collect_in Fence.wide 6 trivial trivial trivial rfl (by omega) Bm _ es.length hlen w
    (values_stops Fence.wide (6 - 1 - 1) trivial rfl (by omega) Bm mb clock es w (lt_of_cell hm) hm hmap hb hnd))
end Go.Proofs.YticobikhndlejaaDoor
