/- Table.Sorted by contract: the table's requests by pages and numbers. -/
import Derived.Test.YticobikhndlejaaDoorIter
import Derived.Test.YticobikhndlejaaDoorReq
import Derived.Test.YticobikhndlejaaDoorShelf
import Derived.Lib.RowBridge
import Derived.Lib.SortBridge
namespace Go.Proofs.YticobikhndlejaaDoor
open Go.RowKit Go.Shelf Go.Lib Go.Sort

section
variable {α : Type} [Inhabited α] {enc : α → Value}
theorem holds_of_blockE {w : World} {g : Nat} {cur : Array Value} {e : TypeId} {ss : List α} (hb : w.heap[g]? = some (.cells cur e (0, 0))) (ht : cur.toList.take ss.length = ss.map enc) : Holds enc w g 0 ss.toArray := by
  intro j hj
  have hj' : j < ss.length := by simpa using hj
  refine ⟨?_, by simp [World.frozen?, hb]⟩
  have h1 : (cur.toList.take ss.length)[j]? = (ss.map enc)[j]? := by rw [ht]
  rw [List.getElem?_take_of_lt hj'] at h1
  simp only [World.cell?, hb, Nat.zero_add]
  simp only [Option.isSome_none, Bool.false_eq_true, if_false]
  rw [← Array.getElem?_toList, h1]
  simp [hj']
theorem heap_sortedE {w : World} {g n : Nat} {os : Array Obj} {cur : Array Value} {e : TypeId} {fr : Nat × Nat} (d : Array α) (hb : w.heap[g]? = some (.cells cur e fr)) :
    (grow (putRow enc (Sort.ahead w n) g 0 d) os).heap[g]? = some (.cells (putCells enc 0 d cur) e fr) := by
  have hg : g < w.heap.size := (Array.getElem?_eq_some_iff.1 hb).1
  rw [heap_grow_old _ _ (by simpa using hg)]
  simp [putRow, mapBlock, Sort.ahead, Array.getElem?_modify, hb, onCells]
theorem grownBy_sortedE {w : World} {g n : Nat} {os : Array Obj} (d : Array α) : w.grownBy (grow (putRow enc (Sort.ahead w n) g 0 d) os) (some g) := by
  refine ⟨rfl, rfl, rfl, by simp, fun k hk hne => ?_⟩
  rw [heap_grow_old _ _ (by simpa using hk)]
  have : g ≠ k := fun e => hne (by rw [e])
  simp [putRow, mapBlock, Sort.ahead, Array.getElem?_modify, this]
theorem take_putCellsE (cur : Array Value) (ts : List α) (h : ts.length ≤ cur.size) : (putCells enc 0 ts.toArray cur).toList.take ts.length = ts.map enc := by
  apply List.ext_getElem?
  intro j
  by_cases hj : j < ts.length
  · rw [List.getElem?_take_of_lt hj, Array.getElem?_toList]
    simp [putCells, hj, show j < cur.size by omega]
  · rw [List.getElem?_take_eq_none (by omega), List.getElem?_eq_none (by simp; omega)]
theorem ownsRow_sortedE {w : World} {base g cap n : Nat} {e : TypeId} {os : Array Obj} {cur : Array Value} {ss ts : List α} (hl : ts.length = ss.length) (hbase : base ≤ g) (hb : w.heap[g]? = some (.cells cur e (0, 0)))
    (h1 : ss.length ≤ cap) (h2 : cap ≤ maxLen) (h3 : cur.size = cap * 1) :
    (grow (putRow enc (Sort.ahead w n) g 0 ts.toArray) os).ownsRow base e 1 (.slice (some ⟨g, 0, none⟩) ss.length cap) ss.length (ts.map enc) :=
  ⟨by simp [hl], .inr ⟨g, cap, _, rfl, hbase, heap_sortedE _ hb, h1, h2, by simp [putCells, h3], by rw [Nat.mul_one, ← hl]; exact take_putCellsE cur ts (by omega)⟩⟩
end

/-- The entries of a world: what the sort may compare. -/
abbrev EntOf (es : List Ent) : Type := { x : Ent // x ∈ es }
abbrev encE {es : List Ent} (x : EntOf es) : Value := ptr x.1.p
def cmpE {es : List Ent} (x y : EntOf es) : Int := x.1.r.cmp y.1.r
theorem cmp_lt {es : List Ent} (x y : EntOf es) : ltOf cmpE x y = (decide (x.1.r.page < y.1.r.page) || (decide (x.1.r.page = y.1.r.page) && decide (x.1.r.num < y.1.r.num))) := by
  unfold ltOf cmpE Req.cmp
  by_cases h : x.1.r.page = y.1.r.page
  · simp [h]; omega
  · simp [h]; omega
theorem cmp_swo {es : List Ent} : SWO (ltOf (cmpE (es := es))) where
  irrefl x := by rw [cmp_lt]; simp
  trans x y z h1 h2 := by rw [cmp_lt] at *; simp at *; omega
  ntrans x y z h1 h2 := by rw [cmp_lt] at *; simp at *; omega
theorem num_inj {es : List Ent} (h : (es.map (·.r.num)).Nodup) {x y : Ent} (hx : x ∈ es) (hy : y ∈ es) (he : x.r.num = y.r.num) : x = y := by
  induction es with
  | nil => cases hx
  | cons a es ih =>
    simp only [List.map_cons, List.nodup_cons] at h
    cases hx with
    | head =>
      cases hy with
      | head => rfl
      | tail _ hy => exact absurd (he ▸ List.mem_map_of_mem hy) h.1
    | tail _ hx =>
      cases hy with
      | head => exact absurd (he ▸ List.mem_map_of_mem hx) h.1
      | tail _ hy => exact ih h.2 hx hy
theorem cmp_total {es : List Ent} (h : EntsOk es) (x y : EntOf es) (h1 : ltOf cmpE x y = false) (h2 : ltOf cmpE y x = false) : x = y := by
  rw [cmp_lt] at *
  simp at h1 h2
  exact Subtype.ext (num_inj h.nodup x.2 y.2 (by omega))
theorem cmp_reads {es : List Ent} [Inhabited (EntOf es)] (h : EntsOk es) (w : World) (hr : ∀ e ∈ es, ReqB w e.p e.r) (blk size : Nat) (hblk : ∀ e ∈ es, e.p ≠ blk) :
    CmpReads Tryd.prog 51 #[] encE (cmpE (es := es)) blk 0 size w := by
  intro m os dk _ x y
  have hW : ∀ e ∈ es, ReqB (sortWorld encE w blk 0 m dk os) e.p e.r := fun e he =>
    ((grownBy_sortedE (enc := encE) (w := w) (g := blk) (n := m) (os := os) dk).block e.p (lt_of_heap (hr e he)) (by simpa using hblk e he)).trans (hr e he)
  exact compare_any x.1.p y.1.p x.1.r y.1.r _ (hW _ x.2) (hW _ y.2) (h.page _ x.2) (h.page _ y.2) (h.num _ x.2) (h.num _ y.2)

theorem swoLe {es : List Ent} (h : EntsOk es) (L : List (EntOf es)) (hn : L.Nodup) : ((L.mergeSort fun x y => !(ltOf cmpE) y x).map (·.1)).Pairwise entLt := by
  have h1 := List.pairwise_mergeSort (le := fun x y : EntOf es => !(ltOf cmpE) y x)
    (fun a b c hab hbc => by simp only [cmp_lt] at *; simp at *; omega) (fun a b => by simp only [cmp_lt]; simp; omega) L
  have h2 : (L.mergeSort fun x y => !(ltOf cmpE) y x).Nodup := (List.mergeSort_perm L _).symm.nodup hn
  refine List.pairwise_map.2 ((h1.and h2).imp fun {x y} hxy => ?_)
  obtain ⟨h3, h4⟩ := hxy
  simp only [cmp_lt] at h3
  simp at h3
  have h5 : x.1.r.num ≠ y.1.r.num := fun he => h4 (Subtype.ext (num_inj h.nodup x.2 y.2 he))
  unfold entLt; omega

set_option maxRecDepth 100000 in
set_option maxHeartbeats 1000000 in
theorem sortedFunc_any (Bm mb clock : Nat) (es : List Ent) (w : World) (hlen : es.length ≤ 1000000) (hm : w.cell? ⟨Bm, 0, none⟩ = some (.map (some mb))) (hmap : w.heap[mb]? = some (mapObj es clock)) (hb : ∀ e ∈ es, e.born < clock) (hnd : (es.map Ent.born).Nodup)
    (hok : EntsOk es) (hr : ∀ e ∈ es, ReqB w e.p e.r) :
    Calls Tryd.prog 49 #[.func (.func 59) #[] #[ptr Bm], .func (.func 51) #[] #[]] w fun e w' =>
      ∃ v : Value, e = .returned v ∧ w'.ownsRow w.heap.size 78 1 v (byPage es).length ((byPage es).map fun e => ptr e.p) ∧ Below w.heap.size w w' := by
  have HC := Lib.hid (collect_any Bm mb clock es w hlen hm hmap hb hnd)
  have HR := Lib.hid hr
  clear hm hmap hb hr
  go_enter Tryd.func49, Tryd.ntmps49
  go_wp2_with fail
  refine HC.out.mono ?_
  rintro e w1 ⟨v, vs, rfl, hp, hrow, hbel⟩
  rcases hrow.2 with ⟨rfl, hz⟩ | ⟨g, cap, cur, rfl, hbase, hgb, r1, r2, r3, r4⟩
  · have hvs : vs = [] := List.eq_nil_of_length_eq_zero hz
    subst hvs
    have hes : es = [] := hp.symm.eq_nil
    subst hes
    go_wp2_with fail
    refine (AnyF.slices_SortFunc_none (P := Tryd.prog) (ρ := Tryd.sortL_ren) { Tryd.sortL with } none 0 _ w1).mono ?_
    rintro e w2 ⟨rfl, rfl⟩
    go_wp2
    go_ret
    exact ⟨_, rfl, World.ownsRow_nil _ _ _ _, hbel⟩
  · by_cases hvs : vs = []
    · subst hvs
      have hes : es = [] := hp.symm.eq_nil
      subst hes
      have hw1 : w1.ownsRow w.heap.size 78 1 (.slice (some ⟨g, 0, none⟩) 0 cap) 0 [] := hrow
      have HW := Lib.hid hw1
      clear hrow hw1 r1 r2 r3 r4
      go_wp2_with fail
      refine (AnyF.slices_SortFunc_none (P := Tryd.prog) (ρ := Tryd.sortL_ren) { Tryd.sortL with } (some ⟨g, 0, none⟩) cap _ w1).mono ?_
      rintro e w2 ⟨rfl, rfl⟩
      go_wp2
      go_ret
      exact ⟨_, rfl, HW.out, hbel⟩
    · obtain ⟨v0, hv0v⟩ := List.exists_mem_of_ne_nil vs hvs
      have hv0 : v0 ∈ es := hp.subset hv0v
      letI : Inhabited (EntOf es) := ⟨⟨v0, hv0⟩⟩
      obtain ⟨D, hD⟩ : ∃ D : List (EntOf es), D.map (·.1) = vs :=
        ⟨vs.attach.map fun x => ⟨x.1, hp.subset x.2⟩, by rw [List.map_map]; exact List.attach_map_subtype_val _⟩
      have hlD : D.length = vs.length := by rw [← hD]; simp
      have hDn : D.Nodup := by
        have h1 : vs.Nodup := hp.symm.nodup (nodup_of_born hnd)
        rw [← hD] at h1
        exact (List.pairwise_map.1 h1).imp fun hne heq => hne (by rw [heq])
      have hDm : vs.map (fun e => ptr e.p) = D.map encE := by rw [← hD, List.map_map]; rfl
      rw [hDm, ← hlD, Nat.mul_one] at r4
      rw [← hlD] at r1
      have hH : Holds (encE (es := es)) w1 g 0 D.toArray := holds_of_blockE hgb r4
      have hsz : D.length < 4611686018427387904 := by rw [hlD, hp.length_eq]; omega
      have hgl : g < w1.heap.size := lt_of_heap hgb
      have hr1 : ∀ e ∈ es, ReqB w1 e.p e.r := fun e he => (hbel.block e.p (lt_of_heap (HR.out e he))).trans (HR.out e he)
      have hgne : ∀ e ∈ es, e.p ≠ g := fun e he h => by
        have h1 := hr1 e he
        rw [h] at h1
        unfold ReqB at h1
        rw [hgb] at h1
        cases h1
      have hc := Any.slices_SortFunc_total (P := Tryd.prog) (ρ := Tryd.sortL_ren) Tryd.sortL (encE (es := es)) (fun _ => rfl) cmpE cmp_swo 51 #[] g 0 cap D.toArray w1
        (enters_of Tryd.func51 (by kernel_rfl) rfl) (cmp_reads hok w1 hr1 g D.toArray.size hgne).lays hH hgl (by simpa using hsz) (cmp_total hok)
      have hfin : (D.mergeSort fun x y => !(ltOf cmpE) y x).map (·.1) = byPage es := by
        refine sorted_unique ?_ (swoLe hok D hDn) (byPage_sorted hok)
        refine (((List.mergeSort_perm D _).map (·.1)).trans (List.Perm.of_eq hD)).trans (hp.trans (byPage_perm hok).symm)
      have hlen2 : vs.length = D.length := hlD.symm
      have HCs := Lib.hid hc
      have HF := Lib.hid hfin
      have HL := Lib.hid hlen2
      have hne : (byPage es).length = D.length := by rw [← hfin]; simp
      have HN := Lib.hid hne
      clear hc hfin hrow hp hD hDm hlD hlen2 hne r4 hH hr1 hgne
      go_wp2_with fail
      rw [HL.out]
      have hsz2 : D.toArray.size = D.length := by simp
      rw [← hsz2]
      refine HCs.out.mono ?_
      rintro e w2 ⟨rfl, n, os, hw2⟩
      have hrow2 : w2.ownsRow w.heap.size 78 1 (.slice (some ⟨g, 0, none⟩) D.length cap) D.length ((D.mergeSort fun x y => !(ltOf cmpE) y x).map encE) := by
        rw [hw2]; exact ownsRow_sortedE (by simp) hbase hgb r1 r2 r3
      have hb2 : Below w.heap.size w w2 := by rw [hw2]; exact hbel.grown (grownBy_sortedE _) hbel.size (fun k e => by cases e; exact hbase)
      have HR2 := Lib.hid hrow2
      clear hrow2 hw2 hsz2
      go_wp2
      go_ret
      refine ⟨_, rfl, ?_, hb2⟩
      rw [HN.out, ← HF.out, List.map_map]
      exact HR2.out

/-- The table: its block, its map, its requests. -/
structure TabB (w : World) (tb mb clock : Nat) (last held : Int) (es : List Ent) : Prop where
  tab : w.heap[tb]? = some (.cells #[.map (some mb), .int .i64 last, .int .i64 held] 121 (0, 0))
  map : w.heap[mb]? = some (mapObj es clock)
  reqs : ∀ e ∈ es, ReqB w e.p e.r
  born : ∀ e ∈ es, e.born < clock
  borns : (es.map Ent.born).Nodup
  ok : EntsOk es
  len : es.length ≤ 1000000
theorem TabB.c0 {w : World} {tb mb clock : Nat} {last held : Int} {es : List Ent} (h : TabB w tb mb clock last held es) : w.cell? ⟨tb, 0, none⟩ = some (.map (some mb)) := cell_of h.tab rfl
theorem TabB.c1 {w : World} {tb mb clock : Nat} {last held : Int} {es : List Ent} (h : TabB w tb mb clock last held es) : w.cell? ⟨tb, 1, none⟩ = some (.int .i64 last) := cell_of h.tab rfl
theorem TabB.c2 {w : World} {tb mb clock : Nat} {last held : Int} {es : List Ent} (h : TabB w tb mb clock last held es) : w.cell? ⟨tb, 2, none⟩ = some (.int .i64 held) := cell_of h.tab rfl
/-- It lies on where its blocks lie on. -/
theorem TabB.kept {w w' : World} {tb mb clock : Nat} {last held : Int} {es : List Ent} (h : TabB w tb mb clock last held es) {S : Nat → Prop} (hc : Chg S w w') (h1 : ¬ S tb) (h2 : ¬ S mb) (h3 : ∀ e ∈ es, ¬ S e.p) : TabB w' tb mb clock last held es :=
  ⟨(hc.block _ (lt_of_heap h.tab) h1).trans h.tab, (hc.block _ (lt_of_heap h.map) h2).trans h.map, fun e he => (hc.block _ (lt_of_heap (h.reqs e he)) (h3 e he)).trans (h.reqs e he), h.born, h.borns, h.ok, h.len⟩
theorem TabB.below {w w' : World} {tb mb clock : Nat} {last held : Int} {es : List Ent} (h : TabB w tb mb clock last held es) (hb : Below w.heap.size w w') : TabB w' tb mb clock last held es :=
  h.kept (chgB hb (fun _ => False)) (fun x => x) (fun x => x) (fun _ _ x => x)

set_option maxRecDepth 100000 in
theorem sorted_any (tb mb clock : Nat) (last held : Int) (es : List Ent) (w : World) (h : TabB w tb mb clock last held es) :
    Calls Tryd.prog 34 #[ptr tb] w fun e w' =>
      ∃ v : Value, e = .returned v ∧ w'.ownsRow w.heap.size 78 1 v (byPage es).length ((byPage es).map fun e => ptr e.p) ∧ Below w.heap.size w w' := by
  have c0 := h.c0
  have hb : Below w.heap.size w (w.alloc (.cells #[.map (some mb)] 119)) := (Below.refl _ w).alloc (Nat.le_refl _) _
  have h1 := h.below hb
  have HC := Lib.hid (sortedFunc_any w.heap.size mb clock es _ h1.len (cell_new (w := w) (c := #[.map (some mb)]) (t := 119) rfl) h1.map h1.born h1.borns h1.ok h1.reqs)
  have hV := (callsIn_wide (n := 6)).1 (values_in Fence.wide 6 trivial rfl (some mb) w)
  have HV := Lib.hid hV
  clear h h1 hV
  go_enter Tryd.func34, Tryd.ntmps34
  go_wp2_with fail
  refine HV.out.mono ?_
  rintro e w1 ⟨rfl, rfl⟩
  go_wp2_with fail
  refine HC.out.mono ?_
  rintro e w1 ⟨v, rfl, hrow, hbel⟩
  have HR := Lib.hid hrow
  clear hrow
  go_wp2
  go_ret
  exact ⟨v, rfl, ⟨HR.out.1, HR.out.2.imp id fun ⟨g, cap, cur, h1, h2, h3⟩ => ⟨g, cap, cur, h1, by simp at h2; omega, h3⟩⟩, hb.trans (hbel.mono (by simp))⟩
end Go.Proofs.YticobikhndlejaaDoor
