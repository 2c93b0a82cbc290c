/- The document's queue: drop by contract. -/
import Derived.Test.YticobikhndlejabGreatDoorScP
import Derived.Test.YticobikhndlejabGreatDoorScB
import Derived.Laws.BytesArg
import Derived.Test.YticobikhndlejabGreatDoorScK
import Derived.Test.YticobikhndlejabGreatDoorScN
import Derived.Lib.SliceRun
namespace Go.Proofs.YticobikhndlejabGreatDoor
open Go.RowKit Go.Shelf Go.Lib

theorem erase_take_ne {α : Type} {l : List α} {k j : Nat} {x : α} (hx : l[j]? = some x) (hne : j ≠ k) : (l.take (j + 1)).eraseIdx k = (l.take j).eraseIdx k ++ [x] := by
  obtain ⟨hl, e⟩ := List.getElem?_eq_some_iff.1 hx
  rw [List.take_succ_eq_append_getElem hl, e]
  by_cases hk : k < j
  · rw [List.eraseIdx_append_of_lt_length (by rw [List.length_take]; omega)]
  · rw [List.eraseIdx_of_length_le (by simp; omega), List.eraseIdx_of_length_le (by simp; omega)]
theorem erase_take_eq {α : Type} {l : List α} {k : Nat} : (l.take (k + 1)).eraseIdx k = (l.take k).eraseIdx k := by
  rw [List.eraseIdx_of_length_le (l := l.take k) (by simp; omega)]
  apply List.ext_getElem?
  intro i
  rw [List.getElem?_eraseIdx, List.getElem?_take, List.getElem?_take, List.getElem?_take]
  by_cases h : i < k
  · simp [h]; intro; omega
  · simp [h]
theorem erase_take_len {α : Type} (l : List α) (k j : Nat) : ((l.take j).eraseIdx k).length ≤ j := by
  have := List.length_eraseIdx_le (l := l.take j) k
  rw [List.length_take] at this
  omega
set_option maxRecDepth 100000 in
set_option maxHeartbeats 2000000 in
/-- One that is not under way is no more. -/
theorem drop_out (k : Nat) (x : RR) (w : World) {q : Nat} {t : St} {l : List RR} {told : List Int} {fs : List (Cmd × Value)} {rv tv fv dv : Value} (h : RB w q t l told fs rv tv fv dv) (hl : l.length ≤ 1000000) (hk : l[k]? = some x) (ha : x.r.inAir = false) :
    Calls Tryz.prog 59 #[ptr q, .int .i64 k] w fun y w' => ∃ rv', y = .returned (.tuple #[]) ∧ RB w' q t (l.eraseIdx k) told fs rv' tv fv dv ∧ (∀ k, RFoot q rv' tv fv dv fs k → RFoot q rv tv fv dv fs k ∨ w.heap.size ≤ k) ∧ Chg (RFoot q rv tv fv dv fs) w w' := by
  obtain ⟨ra, rc, rfl⟩ := own_slice h.reqs
  obtain ⟨m, hm⟩ : ∃ m, l.length = m := ⟨_, rfl⟩
  obtain ⟨g, cap, e, hgl, _, hcell⟩ := h.req hk
  simp only [Value.slice.injEq] at e
  obtain ⟨rfl, hdrop, rfl⟩ := e
  clear hdrop
  have hkm : k < m := by have := (List.getElem?_eq_some_iff.1 hk).1; omega
  have hkI : (k : Int) < (m : Int) := by omega
  have hk0 : (0 : Int) ≤ (k : Int) := by omega
  have r8 : w.cell? ⟨g, k * 10 + 8, none⟩ = some (.bool x.r.inAir) := hcell 8 _ rfl
  rw [ha] at r8
  have c1 := h.c1
  rw [hm] at c1 hl
  have HR := Lib.hid h
  have HM := Lib.hid hm
  obtain ⟨i0, hi, hz0, hz1, hz2⟩ := info_parts Tryz.infoRR
  clear h hcell ha hk hm
  go_enter Tryz.func59, Tryz.ntmps59
  go_wp2_with fail
  go_loopg [4, 5] m (fun kk out i wx => ∃ j, kk = m - j ∧ j ≤ m ∧ i = .int .i64 j ∧ wx.ownsRow w.heap.size 108 10 out ((l.take j).eraseIdx k).length (((l.take j).eraseIdx k).flatMap rrCells) ∧ Below w.heap.size w wx)
  case atStart => exact ⟨0, by simp, by omega, rfl, by simpa using World.ownsRow_nil _ _ _ _, Below.refl _ _⟩
  case round =>
    obtain ⟨j, rfl, hj, rfl, hrow, hB⟩ := hrel
    have hR := HR.out.below hB
    have d1 := hR.c1
    rw [HM.out] at d1
    by_cases hlt : j < m
    · have hltI : (j : Int) < (m : Int) := by omega
      have hj0 : (0 : Int) ≤ (j : Int) := by omega
      by_cases hjk : j = k
      · subst hjk
        have HRW := Lib.hid hrow
        clear hR hrow
        go_wp2_with fail
        go_roundg (m - (j + 1))
        case measure => omega
        case rel => exact ⟨j + 1, rfl, by omega, by go_num, by rw [erase_take_eq]; exact HRW.out, hB⟩
      · have hjkI : ¬ (j : Int) = (k : Int) := by omega
        obtain ⟨y, hy⟩ : ∃ y, l[j]? = some y := ⟨_, List.getElem?_eq_getElem (by have := HM.out; omega)⟩
        obtain ⟨g2, cap2, e2, _, _, hcell⟩ := hR.req hy
        simp only [Value.slice.injEq, Option.some.injEq, Addr.mk.injEq] at e2
        obtain ⟨⟨rfl, _⟩, hdrop, rfl⟩ := e2
        clear hdrop
        have p0 : wr.cell? ⟨g, j * 10, none⟩ = some (.int .i64 y.r.num) := hcell 0 _ rfl
        have p1 : wr.cell? ⟨g, j * 10 + 1, none⟩ = some (.bool y.r.write) := hcell 1 _ rfl
        have p2 : wr.cell? ⟨g, j * 10 + 2, none⟩ = some (.int .i64 y.r.page) := hcell 2 _ rfl
        have p3 : wr.cell? ⟨g, j * 10 + 3, none⟩ = some (.string y.data) := hcell 3 _ rfl
        have p4 : wr.cell? ⟨g, j * 10 + 4, none⟩ = some (.int .i64 y.r.state) := hcell 4 _ rfl
        have p5 : wr.cell? ⟨g, j * 10 + 5, none⟩ = some (.int .i64 y.r.tries) := hcell 5 _ rfl
        have p6 : wr.cell? ⟨g, j * 10 + 6, none⟩ = some (.int .i64 y.r.after) := hcell 6 _ rfl
        have p7 : wr.cell? ⟨g, j * 10 + 7, none⟩ = some (.bool y.r.alone) := hcell 7 _ rfl
        have p8 : wr.cell? ⟨g, j * 10 + 8, none⟩ = some (.bool y.r.inAir) := hcell 8 _ rfl
        have p9 : wr.cell? ⟨g, j * 10 + 9, none⟩ = some (.string y.answer) := hcell 9 _ rfl
        have hel := erase_take_len l k j
        obtain ⟨mm, hmm⟩ : ∃ mm, ((l.take j).eraseIdx k).length = mm := ⟨_, rfl⟩
        rw [hmm] at hrow hel
        have HMM := Lib.hid hmm
        have HY := Lib.hid hy
        have hsz := hB.size
        clear hR hcell hmm hy
        go_wp2_with (at_builtin; refine wpList_append_own _ rfl _ _ 43 rfl w.heap.size 108 i0 _ 10 88 Tryz.underlying43 hi hz0 hz1 hz2 rfl (by decide) _ _ _ rfl (hrow.alloc _) ⟨wr.heap.size, 0, none⟩ 1 1 [.int .i64 y.r.num, .bool y.r.write, .int .i64 y.r.page, .string y.data, .int .i64 y.r.state, .int .i64 y.r.tries, .int .i64 y.r.after, .bool y.r.alone, .bool y.r.inAir, .string y.answer] rfl rfl (World.news_of_block (World.alloc_heap_new wr _)) (by simp [Value.oneCell']) ?_ ?_ ?_ ?_)
        · unfold maxLen; omega
        · omega
        · first | omega | (simp; omega)
        intro v' w3 hown' hgrow _
        have hB3 : Below w.heap.size w w3 := (hB.alloc hB.size _).grown hgrow (by simp; omega) (fun k ek => (hrow.lt k ek).1)
        have HO := Lib.hid hown'
        clear hown' hgrow hrow
        go_wp2
        go_roundg (m - (j + 1))
        case measure => omega
        case rel => exact ⟨j + 1, rfl, by omega, by go_num, by rw [erase_take_ne HY.out hjk, List.length_append, List.flatMap_append, HMM.out]; simpa [rrCells] using HO.out, hB3⟩
    · obtain rfl : j = m := by omega
      have hall : l.take j = l := List.take_of_length_le (by have := HM.out; omega)
      rw [hall] at hrow
      obtain ⟨oa, oc, rfl⟩ := own_slice hrow
      obtain ⟨W3, rfl⟩ : ∃ z, z = wr := ⟨_, rfl⟩
      have hf := hR.free
      have hq1 := d1
      obtain ⟨hset, hch, hft⟩ := HR.out.setR ((chgB hB _)) (ownsRow_lowS hrow (Nat.zero_le _)) fun k hk => .inr (hrow.lt k hk).1
      have HS := Lib.hid hset
      have HC := Lib.hid hch
      have HF := Lib.hid hft
      clear hR hrow hall hset hch hft
      go_wp2_with fail
      go_end0
      exact ⟨_, rfl, HS.out, HF.out, HC.out.mono fun k _ hk => hk.elim (fun e => .inl e) fun e => .inr (.inl e)⟩
/-- A request is told. -/
theorem drop_r (k : Nat) (x : RR) (w : World) {q : Nat} {t : St} {l : List RR} {told : List Int} {fs : List (Cmd × Value)} {rv tv fv dv : Value} (h : RB w q t l told fs rv tv fv dv) (h2 : RRel l told t) (hk : t.Ok) (hsm : t.Small) (hx : l[k]? = some x) (ht : x.r.told = false) :
    Calls Tryz.prog 59 #[ptr q, .int .i64 k] w fun y w' => ∃ l' told' rv' tv', y = .returned (.tuple #[]) ∧ RB w' q (t.tell x.r.num) l' told' fs rv' tv' fv dv ∧ RRel l' told' (t.tell x.r.num) ∧ (∀ k, RFoot q rv' tv' fv dv fs k → RFoot q rv tv fv dv fs k ∨ w.heap.size ≤ k) ∧ Chg (RFoot q rv tv fv dv fs) w w' := by
  have hl := h2.tlen hk hsm
  have hs := hk.a.rs.nums
  cases ha : x.r.inAir with
  | true =>
    refine (drop_air k x w h (by omega) (by omega) hx ha).mono ?_
    rintro y w' ⟨tv', e, hR, hF, hC⟩
    exact ⟨l.set k (tellX x), told ++ [x.r.num], rv, tv', e, ⟨hR.que, by rw [List.length_set, rr_tell hx]; exact hR.reqs, hR.tol, hR.fls, hR.fcs, hR.dsk, hR.tf⟩, rrel_tell_air h2 hs (fun y hy ht => ((hk.a.rs.ok y hy).told ht).2) hx ha ht, hF, hC⟩
  | false =>
    refine (drop_out k x w h (by omega) hx ha).mono ?_
    rintro y w' ⟨rv', e, hR, hF, hC⟩
    exact ⟨l.eraseIdx k, told, rv', tv, e, hR.st rfl rfl rfl rfl rfl rfl, rrel_tell_drop h2 hs hx ha ht, hF, hC⟩
end Go.Proofs.YticobikhndlejabGreatDoor

/- A page laid into the disk. Plain Lean. -/
namespace Go.Proofs.YticobikhndlejabGreatDoor

def bytesOf (d : B4) : ByteArray := strOfNums [d.a, d.b, d.c, d.d]
theorem dput_split {l : List Int} (hl : l.length = 64) {p : Nat} (hp : p < 16) (d : B4) : dput l (p : Int) d = l.take (4 * p) ++ ([d.a, d.b, d.c, d.d] ++ l.drop (4 * p + 4)) := by
  have e1 : l = l.take (4 * p) ++ l.drop (4 * p) := (List.take_append_drop _ _).symm
  have hlen : (l.take (4 * p)).length = 4 * p := by rw [List.length_take]; omega
  have hdl : (l.drop (4 * p)).length = 64 - 4 * p := by rw [List.length_drop, hl]
  have e2 : l.drop (4 * p + 4) = (l.drop (4 * p)).drop 4 := by rw [List.drop_drop]
  rw [e2]
  generalize hA : l.take (4 * p) = A at *
  generalize hB : l.drop (4 * p) = B at *
  rw [e1]
  unfold dput
  simp only [Int.toNat_natCast]
  match B, hdl with
  | [], h => simp at h; omega
  | [_], h => simp at h; omega
  | [_, _], h => simp at h; omega
  | [_, _, _], h => simp at h; omega
  | b0 :: b1 :: b2 :: b3 :: B, _ =>
    rw [List.set_append_right _ _ (by omega), List.set_append_right _ _ (by omega), List.set_append_right _ _ (by omega), List.set_append_right _ _ (by omega), hlen]
    simp only [Nat.sub_self, Nat.add_sub_cancel_left]
    rfl
end Go.Proofs.YticobikhndlejabGreatDoor

/- Crash by contract. -/
namespace Go.Proofs.YticobikhndlejabGreatDoor
open Go.RowKit Go.Shelf Go.Lib

theorem run_clear_tab {P : Program} {w : World} {T K E mb clock : Nat} {es : List Ent} {ty : TypeId} (hT : P.underlying T = some (.map K E)) (hm : w.heap[mb]? = some (mapObj es clock)) :
    (Builtin.clear_ #[T] ty #[.map (some mb)]).run P w = .ok (.tuple #[]) (w.putObj mb (mapObj [] clock)) := by
  simp only [Builtin.clear_]
  simp [run_underlying hT, getMap_run hm, Result.andThen, setMap_run _ hm]
  simp [mapObj]
set_option maxRecDepth 100000 in
theorem clear_any (tb mb clock : Nat) (last held : Int) (es : List Ent) (w : World) (h : TabB w tb mb clock last held es) :
    Calls Tryz.prog 76 #[ptr tb] w fun x w' => x = .returned (.tuple #[]) ∧ TabB w' tb mb clock last 0 [] ∧ Chg (fun k => k = tb ∨ k = mb) w w' := by
  have c0 := h.c0
  have hm := h.map
  have hne : tb ≠ mb := ne_of_heap h.tab hm (by simp [mapObj])
  have hr := run_clear_tab (P := Tryz.prog) (ty := 0) Tryz.underlying158 hm
  have htb : (w.putObj mb (mapObj [] clock)).heap[tb]? = some (.cells #[.map (some mb), .int .i64 last, .int .i64 held] 160 (0, 0)) := by
    rw [World.putObj_heap_other hne]; exact h.tab
  have k0 : (w.putObj mb (mapObj [] clock)).cell? ⟨tb, 2, none⟩ = some (.int .i64 held) := cell_of htb rfl
  have kf : (w.putObj mb (mapObj [] clock)).frozen? ⟨tb, 2, none⟩ = false := free_of htb
  have hmb := lt_of_heap hm
  have HT := Lib.hid h
  have HB := Lib.hid htb
  clear h htb hm
  go_enter Tryz.func76, Tryz.ntmps76
  go_wp2_with fail
  go_end0
  have hc : Chg (fun k => k = tb ∨ k = mb) w ((w.putObj mb (mapObj [] clock)).setCell ⟨tb, 2, none⟩ (.int .i64 0)) := by
    have h0 : Chg (fun k => k = tb ∨ k = mb) w (w.putObj mb (mapObj [] clock)) := ⟨rfl, rfl, rfl, by simp, fun k _ hk => World.putObj_heap_other fun e => hk (.inr e)⟩
    exact h0.setCell (p := ⟨tb, 2, none⟩) (.inl (.inl rfl)) _
  refine ⟨rfl, ⟨heap_setCell (i := 2) _ HB.out, ?_, (fun e he => by cases he), (fun e he => by cases he), List.nodup_nil, ⟨(fun e he => by cases he), (fun e he => by cases he), List.Pairwise.nil⟩, by simp⟩, hc⟩
  rw [heap_setCell_ne _ (by simpa using hne.symm)]
  exact World.putObj_heap_same hmb

theorem kept_app (rs : List Req) (f : Nat → Bool) : ∀ (a b : List Int) (i : Nat) (d : List Int), St.kept rs (a ++ b) f i d = St.kept rs b f (i + a.length) (St.kept rs a f i d)
  | [], _, _, _ => rfl
  | n :: a, b, i, d => by
    simp only [List.cons_append, St.kept]
    rw [kept_app rs f a b]
    simp only [List.length_cons]
    congr 1; omega
theorem kept_len (rs : List Req) (f : Nat → Bool) : ∀ (a : List Int) (i : Nat) (d : List Int), (St.kept rs a f i d).length = d.length
  | [], _, _ => rfl
  | n :: a, i, d => by
    simp only [St.kept]
    rw [kept_len rs f a]
    split
    · split
      · rfl
      · simp [dput]
    · rfl
/-- The numbers that are to be written, of the first j commands. -/
def wnums (cs : List (Cmd × Value)) (j : Nat) : List Int := (((cs.take j).map (·.1)).filter (·.write)).flatMap (·.nums)
theorem wnums_succ {cs : List (Cmd × Value)} {j : Nat} {c : Cmd × Value} (h : cs[j]? = some c) : wnums cs (j + 1) = wnums cs j ++ (if c.1.write then c.1.nums else []) := by
  obtain ⟨h1, h2⟩ := List.getElem?_eq_some_iff.1 h
  unfold wnums
  rw [List.take_succ_eq_append_getElem h1, h2, List.map_append, List.filter_append, List.flatMap_append]
  congr 1
  cases hw : c.1.write <;> simp [hw]
theorem chg_setCells (b : Nat) : ∀ (vs : List Value) (o : Nat) (w : World), Chg (fun k => k = b) w (w.setCells b o vs)
  | [], _, w => Chg.refl _ w
  | v :: vs, o, _ => ((chg_set (i := o) v)).then (chg_setCells b vs (o + 1) _)
theorem heap_setCellsE (b : Nat) {t : TypeId} : ∀ (vs : List Value) (o : Nat) (w : World) (cur : Array Value), w.heap[b]? = some (.cells cur t (0, 0)) → ∃ cur', (w.setCells b o vs).heap[b]? = some (.cells cur' t (0, 0)) ∧ cur'.size = cur.size
  | [], _, w, cur, h => ⟨cur, h, rfl⟩
  | v :: vs, o, w, cur, h => by
    obtain ⟨cur', h1, h2⟩ := heap_setCellsE b vs (o + 1) _ _ (heap_setCell (i := o) v h)
    exact ⟨cur', h1, by rw [h2]; simp⟩
theorem run_clear_cmds {P : Program} (w : World) (t e ty : TypeId) (zs : Array Value) (ht : P.underlying t = some (.slice e)) (hv : ∀ w, (zeroValue e).run P w = .ok (.agg zs) w) (hz : zs.size = 4) (h1 : ∀ v ∈ zs, v.oneCell' = true) (b n c : Nat) (hn : 0 < n) {cur : Array Value} {et : TypeId}
    (hc : w.heap[b]? = some (.cells cur et (0, 0))) (hs : n * 4 ≤ cur.size) : ∃ L : List Value,
    (Builtin.clear_ #[t] ty #[.slice (some ⟨b, 0, none⟩) n c]).run P w = .ok (.tuple #[]) (w.setCells b 0 L) := by
  refine ⟨(Builtin.zeroCells zs n).toList, ?_⟩
  have hlen : (Builtin.zeroCells zs n).toList.length = n * 4 := by simp [Builtin.zeroCells, hz]
  have hst := run_storeCells_cells (P := P) b 0 (Builtin.zeroCells zs n).toList 0 w (fun j hj => by
    rw [hlen] at hj
    rw [cell_of hc (i := 0 + 0 + j) (v := cur[0 + 0 + j]'(by omega)) (Array.getElem?_eq_getElem _)]; rfl) (fun j _ => free_of hc) (by
    intro v hv'
    simp only [Builtin.zeroCells, Array.toList_map, List.mem_map] at hv'
    obtain ⟨i, _, rfl⟩ := hv'
    have hi : i % zs.size < zs.size := Nat.mod_lt _ (by omega)
    rw [getElem!_pos zs (i % zs.size) hi]
    exact h1 _ (Array.getElem_mem hi))
  simp only [Nat.add_zero] at hst
  obtain ⟨m, rfl⟩ : ∃ m, n = m + 1 := ⟨n - 1, by omega⟩
  simp [Builtin.clear_, run_underlying ht, hv, hst, Value.cells]
/-- A row of bools. -/
def BRow (w : World) (v : Value) (l : List Bool) : Prop := w.ownsRow 0 4 1 v l.length (l.map Value.bool)
theorem BRow.cell {w : World} {a : Option Addr} {n c : Nat} {l : List Bool} (h : BRow w (.slice a n c) l) {i : Nat} (hi : i < l.length) : ∃ g, a = some ⟨g, 0, none⟩ ∧ n = l.length ∧ w.cell? ⟨g, i, none⟩ = some (.bool (l.getD i false)) := by
  rcases h.2 with ⟨e, h0⟩ | ⟨g, cap, cur, e, hb, h3, h4, h5, h6, h7⟩
  · omega
  · simp only [Value.slice.injEq] at e
    obtain ⟨rfl, rfl, rfl⟩ := e
    refine ⟨g, rfl, rfl, cell_of h3 ?_⟩
    have h1 : (l.map Value.bool)[i]? = some (.bool (l.getD i false)) := by rw [List.getElem?_map, List.getD_eq_getElem?_getD, List.getElem?_eq_getElem hi]; rfl
    rw [← h7, List.getElem?_take_of_lt (by omega)] at h1
    rw [← Array.getElem?_toList]; exact h1
theorem find_numC {es : List Ent} (hok : EntsOk es) {e : Ent} (he : e ∈ es) : (es.map (·.r)).find? (fun r => r.num == e.r.num) = some e.r := by
  have hu : ∀ x ∈ es, x.r.num = e.r.num → x = e := fun x hx hn => num_inj hok.nodup hx he hn
  cases hf : (es.map (·.r)).find? (fun r => r.num == e.r.num) with
  | none =>
    have := List.find?_eq_none.1 hf e.r (List.mem_map_of_mem he)
    simp at this
  | some r =>
    have h1 := List.mem_of_find?_eq_some hf
    have h2 := List.find?_some hf
    obtain ⟨x, hx, rfl⟩ := List.mem_map.1 h1
    rw [hu x hx (by simpa using h2)]
theorem qCells_fl (tb : Nat) (fv fv' : Value) (s : Sta) : (qCells tb fv s).setIfInBounds 2 fv' = qCells tb fv' s := by simp [qCells]
theorem qCells_hd (tb : Nat) (fv : Value) (s : Sta) : (qCells tb fv s).setIfInBounds 4 (.int .i64 0) = qCells tb fv { s with head := 0 } := by simp [qCells]
theorem own_len (a : Option Addr) (n m c : Nat) : (Value.slice a n c).ownBlock = (Value.slice a m c).ownBlock := by cases a <;> rfl
/-- What is laid on the disk. -/
def dSta (s : Sta) (D : List Int) : Sta := { s with disk := D }

set_option maxRecDepth 100000 in
set_option maxHeartbeats 4000000 in
theorem crash_any (q : Nat) (s : Sta) (F : Nat → Prop) (w : World) (v : Value) (l : List Bool) (h : QAt w q s F) (hB : BRow w v l) (hv : ∀ k, v.ownBlock = some k → ¬ F k)
    (hfly : ∀ c ∈ s.cs, c.1.write = true → ∀ n ∈ c.1.nums, ∃ e ∈ s.es, e.r.num = n) (hnl : ∀ c ∈ s.cs, c.1.nums.length ≤ 1000000) (hcl : s.cs.length ≤ 1000) :
    Calls Tryz.prog 52 #[ptr q, v] w fun x w' => x = .returned (.tuple #[]) ∧
      QAt w' q { s with es := [], held := 0, cs := [], head := 0, disk := St.kept (s.es.map (·.r)) (wnums s.cs s.cs.length) (fun i => l.getD i false) 0 s.disk } F ∧ Chg F w w' := by
  obtain ⟨tb, mb, clock, fv, hq, hF⟩ := h
  obtain ⟨fa, fc, rfl⟩ := own_slice hq.fl
  obtain ⟨va, vc, rfl⟩ := own_slice hB
  have c2 := hq.c2
  obtain ⟨n, hn⟩ : ∃ n, s.cs.length = n := ⟨_, rfl⟩
  rw [hn] at c2
  have hqF : F q := hF q (.inl rfl)
  have HQ := Lib.hid hq
  have HF := Lib.hid hF
  have HB := Lib.hid hB
  have HV := Lib.hid hv
  have HFL := Lib.hid hfly
  have HNL := Lib.hid hnl
  have hD0 : Hid (dSta s s.disk = s) := Lib.hid rfl
  have hlen0 := hq.disk
  clear hq hF hB hv hfly hnl
  go_enter Tryz.func52, Tryz.ntmps52
  go_wp2_with fail
  go_loopg [4, 15] n (fun k nv i wr => ∃ (j : Nat), k = n - j ∧ j ≤ n ∧ i = .int .i64 j ∧ nv = .int .i64 (wnums s.cs j).length ∧ Hid (QB wr q tb mb clock (.slice fa s.cs.length fc) (dSta s (St.kept (s.es.map (·.r)) (wnums s.cs j) (fun i => l.getD i false) 0 s.disk)) ∧ Chg (fun k => k = q) w wr) ∧ (wnums s.cs j).length ≤ 1000000 * j)
  case atStart => exact ⟨0, by simp, by omega, rfl, rfl, Lib.hid ⟨HQ.out, Chg.refl _ _⟩, by simp [wnums]⟩
  case round =>
    obtain ⟨j, rfl, hj, rfl, rfl, hQ, hle⟩ := hrel
    by_cases hlt : j < n
    · have hltI : (j : Int) < (n : Int) := by omega
      obtain ⟨⟨c, cv⟩, hc⟩ : ∃ c, s.cs[j]? = some c := ⟨_, List.getElem?_eq_getElem (by omega)⟩
      have hcm : (c, cv) ∈ s.cs := List.mem_of_getElem? hc
      have hrow := hQ.out.1.rows _ hcm
      obtain ⟨ra, rc, rfl⟩ : ∃ ra rc, cv = .slice ra c.nums.length rc := own_slice hrow
      obtain ⟨g, cap, e, _, hgl, hcell⟩ := cmd_cells hQ.out.1.fl hc
      simp only [Value.slice.injEq] at e
      obtain ⟨rfl, _, rfl⟩ := e
      have p0 : wr.cell? ⟨g, j * 4, none⟩ = some (.bool c.write) := hcell 0 _ rfl
      have p1 : wr.cell? ⟨g, j * 4 + 1, none⟩ = some (.int .i64 c.page) := hcell 1 _ rfl
      have p2 : wr.cell? ⟨g, j * 4 + 2, none⟩ = some (.int .i64 c.count) := hcell 2 _ rfl
      have p3 : wr.cell? ⟨g, j * 4 + 3, none⟩ = some (.slice ra c.nums.length rc) := hcell 3 _ rfl
      have hsucc := wnums_succ hc
      have HC := Lib.hid (And.intro hcm hsucc)
      have HR := Lib.hid hrow
      clear hcell hc hcm hsucc hrow
      cases hcw : c.write with
      | false =>
        rw [hcw] at p0
        go_wp2_with fail
        go_roundg (n - (j + 1))
        case measure => omega
        case rel =>
          have hw1 : wnums s.cs (j + 1) = wnums s.cs j := by rw [HC.out.2, hcw]; simp
          exact ⟨j + 1, rfl, by omega, by go_num, by rw [hw1], Lib.hid (by rw [hw1]; exact ⟨hQ.out.1.kept ((Chg.refl (fun _ => False) wr).alloc _) fun _ _ x => x, hQ.out.2.alloc _⟩), by rw [hw1]; omega⟩
      | true =>
        rw [hcw] at p0
        have hw1 : wnums s.cs (j + 1) = wnums s.cs j ++ c.nums := by rw [HC.out.2, hcw]; simp
        have HW1 := Lib.hid hw1
        have hnl := HNL.out _ HC.out.1
        have hfly := HFL.out _ HC.out.1 hcw
        have HFLY := Lib.hid hfly
        obtain ⟨m, hm⟩ : ∃ m, c.nums.length = m := ⟨_, rfl⟩
        obtain ⟨b0, hb0⟩ : ∃ b0, (wnums s.cs j).length = b0 := ⟨_, rfl⟩
        rw [hm] at p3
        simp only at hnl
        rw [hm] at hnl
        have HM := Lib.hid hm
        have HB0 := Lib.hid hb0
        rw [hb0]
        rw [hb0] at hle
        clear hw1 hfly hm hb0
        go_wp2_with fail
        have hQ1 : QB (wr.alloc (.cells #[.bool true, .int .i64 c.page, .int .i64 c.count, .slice ra m rc] 84)) q tb mb clock (.slice (some ⟨g, 0, none⟩) s.cs.length fc) (dSta s (St.kept (s.es.map (·.r)) (wnums s.cs j) (fun i => l.getD i false) 0 s.disk)) ∧ Chg (fun k => k = q) w (wr.alloc (.cells #[.bool true, .int .i64 c.page, .int .i64 c.count, .slice ra m rc] 84)) := ⟨hQ.out.1.kept ((Chg.refl (fun _ => False) wr).alloc _) fun _ _ x => x, hQ.out.2.alloc _⟩
        have HQ1 := Lib.hid hQ1
        clear hQ1
        obtain ⟨W0, rfl⟩ : ∃ x, x = wr := ⟨_, rfl⟩
        go_loopg [4, 25] m (fun kk nv iv wx => ∃ (i k : Nat), kk = m - i ∧ i ≤ m ∧ k = b0 + i ∧ iv = .int .i64 i ∧ nv = .int .i64 k ∧ Hid (QB wx q tb mb clock (.slice (some ⟨g, 0, none⟩) s.cs.length fc) (dSta s (St.kept (s.es.map (·.r)) (wnums s.cs j ++ c.nums.take i) (fun i => l.getD i false) 0 s.disk)) ∧ Chg (fun k => k = q) w wx))
        case atStart => exact ⟨0, b0, by simp, by omega, rfl, rfl, rfl, Lib.hid (by simpa using HQ1.out)⟩
        case round =>
          obtain ⟨i, k, rfl, hi, hki, rfl, rfl, hQi⟩ := hrel
          have hk1 : k ≤ 1001000000 := by omega
          by_cases hilt : i < m
          · have hiltI : (i : Int) < (m : Int) := by omega
            have hnum : i < c.nums.length := by rw [HM.out]; exact hilt
            obtain ⟨num, hnumE⟩ : ∃ num, c.nums[i]? = some num := ⟨_, List.getElem?_eq_getElem hnum⟩
            have hrow : wr.ownsRow 0 3 1 (.slice ra c.nums.length rc) c.nums.length (c.nums.map fun n => Value.int .i64 n) := hQi.out.1.rows _ HC.out.1
            rw [HM.out] at hrow
            rcases hrow.2 with ⟨e, h0⟩ | ⟨rg, cap, cur, e, _, r3, r4, r5, r6, r7⟩
            · omega
            simp only [Value.slice.injEq] at e
            obtain ⟨rfl, _, rfl⟩ := e
            have hcell : wr.cell? ⟨rg, i, none⟩ = some (.int .i64 num) := cell_of r3 (by
              have h1 : (c.nums.map fun n => Value.int .i64 n)[i]? = some (.int .i64 num) := by rw [List.getElem?_map, hnumE]; rfl
              rw [← r7, List.getElem?_take_of_lt (by omega)] at h1
              rw [← Array.getElem?_toList]; exact h1)
            have HN := Lib.hid hnumE
            clear hrow r3 r4 r5 r6 r7 hnumE hnum
            have HKI := Lib.hid hki
            have htake : c.nums.take (i + 1) = c.nums.take i ++ [num] := by
              obtain ⟨h1, h2⟩ := List.getElem?_eq_some_iff.1 HN.out
              rw [List.take_succ_eq_append_getElem h1, h2]
            have HT := Lib.hid htake
            have hkept : ∀ D', St.kept (s.es.map (·.r)) (wnums s.cs j ++ c.nums.take (i + 1)) (fun i => l.getD i false) 0 s.disk = D' ↔ St.kept (s.es.map (·.r)) [num] (fun i => l.getD i false) k (St.kept (s.es.map (·.r)) (wnums s.cs j ++ c.nums.take i) (fun i => l.getD i false) 0 s.disk) = D' := fun D' => by
              rw [HT.out, ← List.append_assoc, kept_app, Nat.zero_add, List.length_append, List.length_take, HB0.out, HM.out, Nat.min_eq_left hi, ← HKI.out]
            have HKP := Lib.hid hkept
            clear hki htake hkept
            by_cases hbl : k < l.length
            · have hblI : (k : Int) < (l.length : Int) := by omega
              have hk0I : (0 : Int) ≤ (k : Int) := by omega
              have hBw : BRow wr (.slice va l.length vc) l := ownsRow_chg HB.out hQi.out.2 fun b hb hh => HV.out b hb (hh ▸ hqF)
              obtain ⟨kg, rfl, _, hkc⟩ := hBw.cell hbl
              cases hf : l.getD k false with
              | false =>
                rw [hf] at hkc
                have HFv := Lib.hid hf
                clear hf hBw
                go_wp2_with fail
                go_roundg (m - (i + 1))
                case measure => omega
                case rel => exact ⟨i + 1, k + 1, rfl, by omega, by rw [HKI.out]; omega, by go_num, by go_num, Lib.hid (by rw [(HKP.out _).2 (show St.kept _ [num] _ k _ = _ from by simp only [St.kept]; exact if_neg (by rw [HFv.out]; decide))]; exact hQi.out)⟩
              | true =>
                rw [hf] at hkc
                have HFv := Lib.hid hf
                clear hf hBw
                obtain ⟨e, hee, hen⟩ := HFLY.out num (List.mem_of_getElem? HN.out)
                have t1 := hQi.out.1.c1
                subst hen
                obtain ⟨D, hD⟩ : ∃ D, St.kept (s.es.map (·.r)) (wnums s.cs j ++ c.nums.take i) (fun i => l.getD i false) 0 s.disk = D := ⟨_, rfl⟩
                rw [hD] at hQi
                have HD := Lib.hid hD
                have HEE := Lib.hid hee
                clear hD
                go_wp2_with fail
                refine (get_yes tb mb clock s.last s.held s.es wr hQi.out.1.tab e HEE.out).mono ?_
                rintro x w2 ⟨rfl, rfl⟩
                have hQ2 := hQi.out.1
                have hR : ReqB w2 e.p e.r := hQ2.tab.reqs e HEE.out
                have hpg := hQ2.tab.ok.page e HEE.out
                obtain ⟨pg, hpgE⟩ : ∃ pg : Nat, e.r.page = (pg : Int) := ⟨e.r.page.toNat, by omega⟩
                have hL : LandB w2 q tb (.slice (some ⟨g, 0, none⟩) s.cs.length fc) (dSta s D) e pg (dget D e.r.page).a (dget D e.r.page).b (dget D e.r.page).c (dget D e.r.page).d := ⟨hQ2.que, hR, hpgE, by omega, hQ2.disk, rfl⟩
                obtain ⟨l0, l1, l2, l3⟩ := hL.disk
                have hp0 : (0 : Int) ≤ (pg : Int) := by omega
                have hp1 : (pg : Int) < 16 := by omega
                have hne := hQ2.ne_qp HEE.out
                have hne2 := hne.symm
                have b2 : w2.cell? ⟨e.p, 2, none⟩ = some (.int .i64 pg) := by have := hR.at.c2; rw [← hpgE]; exact this
                have b3 : w2.cell? ⟨e.p, 3, none⟩ = some (.int .u8 e.r.data.a) := hR.at.c3
                have b4 : w2.cell? ⟨e.p, 3 + 1, none⟩ = some (.int .u8 e.r.data.b) := hR.at.c4
                have b5 : w2.cell? ⟨e.p, 3 + 2, none⟩ = some (.int .u8 e.r.data.c) := hR.at.c5
                have b6 : w2.cell? ⟨e.p, 3 + 3, none⟩ = some (.int .u8 e.r.data.d) := hR.at.c6
                have df : ∀ i, w2.frozen? ⟨q, i, none⟩ = false := fun i => free_of hQ2.que
                obtain ⟨W2, hW2⟩ : ∃ W2, ((((w2.setCell ⟨q, 5 + pg * 4, none⟩ (.int .u8 e.r.data.a)).setCell ⟨q, 5 + pg * 4 + 1, none⟩ (.int .u8 e.r.data.b)).setCell ⟨q, 5 + pg * 4 + 2, none⟩ (.int .u8 e.r.data.c)).setCell ⟨q, 5 + pg * 4 + 3, none⟩ (.int .u8 e.r.data.d)).drew = W2 := ⟨_, rfl⟩
                have hc2 : Chg (fun k => k = q) w2 W2 := by rw [← hW2]; exact ((((chg_set _).then (chg_set _)).then (chg_set _)).then (chg_set _)).drew
                have hq2 : W2.heap[q]? = some (.cells (qCells tb (.slice (some ⟨g, 0, none⟩) s.cs.length fc) (dSta s (dput D pg e.r.data))) 80 (0, 0)) := by
                  rw [← hW2, show dSta s (dput D pg e.r.data) = { (dSta s D) with disk := dput (dSta s D).disk pg e.r.data } from rfl, ← qCells_dput]
                  exact heap_setCell (i := 5 + pg * 4 + 3) _ (heap_setCell (i := 5 + pg * 4 + 2) _ (heap_setCell (i := 5 + pg * 4 + 1) _ (heap_setCell (i := 5 + pg * 4) _ hQ2.que)))
                have hQ3 := hQ2.ques (dSta s (dput D pg e.r.data)) rfl rfl rfl rfl (by simp only [dSta, dput, List.length_set]; exact hQ2.disk) hq2 hc2
                have hfn : (s.es.map (·.r)).find? (fun r => r.num == e.r.num) = some e.r := find_numC hQ2.tab.ok HEE.out
                have HQ3 := Lib.hid (And.intro hQ3 (hQi.out.2.then hc2))
                have HFN := Lib.hid hfn
                have HPG := Lib.hid hpgE
                have HW2 := Lib.hid hW2
                clear hW2 hQ2 hR hL hpg hc2 hq2 hQ3 hfn hpgE
                go_wp2_with fail
                go_region_held3 (fun w' => w'.cell? ⟨e.p, 2, none⟩ = some (.int .i64 pg) ∧ w'.cell? ⟨e.p, 3, none⟩ = some (.int .u8 e.r.data.a) ∧ w'.cell? ⟨e.p, 3 + 1, none⟩ = some (.int .u8 e.r.data.b) ∧ w'.cell? ⟨e.p, 3 + 2, none⟩ = some (.int .u8 e.r.data.c) ∧ w'.cell? ⟨e.p, 3 + 3, none⟩ = some (.int .u8 e.r.data.d)) (go_keep) (fail)
                rw [HW2.out]
                go_wp2_with fail
                go_roundg (m - (i + 1))
                case measure => omega
                case rel => exact ⟨i + 1, k + 1, rfl, by omega, by rw [HKI.out]; omega, by go_num, by go_num, Lib.hid (by rw [(HKP.out _).2 (show St.kept _ [e.r.num] _ k _ = dput D pg e.r.data from by simp only [St.kept, HD.out]; rw [if_pos HFv.out, HFN.out]; show dput D e.r.page e.r.data = _; rw [HPG.out])]; exact HQ3.out)⟩
            · have hblI : ¬ (k : Int) < (l.length : Int) := by omega
              go_wp2_with fail
              go_roundg (m - (i + 1))
              case measure => omega
              case rel => exact ⟨i + 1, k + 1, rfl, by omega, by rw [HKI.out]; omega, by go_num, by go_num, Lib.hid (by rw [(HKP.out _).2 (show St.kept _ [num] _ k _ = _ from by simp only [St.kept]; exact if_neg (by rw [List.getD_eq_getElem?_getD, List.getElem?_eq_none (by omega)]; decide))]; exact hQi.out)⟩
          · obtain rfl : i = m := by omega
            have hall : c.nums.take i = c.nums := List.take_of_length_le (by rw [HM.out]; exact Nat.le_refl _)
            rw [hall] at hQi
            clear hall
            go_wp2_with fail
            go_roundg (n - (j + 1))
            case measure => omega
            case rel => exact ⟨j + 1, rfl, by omega, by go_num, by rw [HW1.out, List.length_append, HB0.out, HM.out, hki], Lib.hid (by rw [HW1.out]; exact hQi.out), by rw [HW1.out, List.length_append, HB0.out, HM.out]; omega⟩
    · obtain rfl : j = n := by omega
      obtain ⟨D, hD⟩ : ∃ D, St.kept (s.es.map (·.r)) (wnums s.cs j) (fun i => l.getD i false) 0 s.disk = D := ⟨_, rfl⟩
      rw [hD] at hQ
      have HD := Lib.hid hD
      clear hD
      have hfl : wr.ownsRow 0 84 4 (.slice fa j fc) j ((dSta s D).cs.flatMap cmdCells) := by
        have h9 := hQ.out.1.fl
        have hcs : (dSta s D).cs.length = s.cs.length := rfl
        rw [hcs, hn] at h9
        exact h9
      have hclr : ∃ W1, (Builtin.clear_ #[44] 0 #[.slice fa j fc]).run Tryz.prog wr = .ok (.tuple #[]) W1 ∧ W1.ownsRow 0 84 4 (.slice fa 0 fc) 0 [] ∧ Chg (fun k => (Value.slice fa j fc).ownBlock = some k) wr W1 := by
        rcases hfl.2 with ⟨e, h0⟩ | ⟨g, cap, cur, e, _, r3, r4, r5, r6, r7⟩
        · simp only [Value.slice.injEq] at e
          obtain ⟨rfl, _, rfl⟩ := e
          refine ⟨wr, ?_, World.ownsRow_nil _ _ _ _, Chg.refl _ _⟩
          rw [h0]
          simp [Builtin.clear_, run_underlying Tryz.underlying44]
        · simp only [Value.slice.injEq] at e
          obtain ⟨rfl, _, rfl⟩ := e
          by_cases h0 : j = 0
          · subst h0
            refine ⟨wr, by simp [Builtin.clear_, run_underlying Tryz.underlying44], ⟨rfl, .inr ⟨g, fc, cur, rfl, Nat.zero_le _, r3, Nat.zero_le _, r5, r6, by simp⟩⟩, Chg.refl _ _⟩
          · obtain ⟨L, hL⟩ := run_clear_cmds (P := Tryz.prog) wr 44 84 0 #[.bool false, .int .i64 0, .int .i64 0, .slice none 0 0] Tryz.underlying44 Tryz.zeroValue84 rfl (by simp [Value.oneCell']) g j fc (by omega) r3 (by omega)
            obtain ⟨cur', h1, h2⟩ := heap_setCellsE g L 0 wr cur r3
            exact ⟨_, hL, ⟨rfl, .inr ⟨g, fc, cur', rfl, Nat.zero_le _, h1, Nat.zero_le _, r5, by rw [h2, r6], by simp⟩⟩, (chg_setCells g L 0 wr).mono fun k _ hk => by rw [hk]; rfl⟩
      obtain ⟨W1, hr1, hw1, hc1⟩ := hclr
      have hne : ∀ k, (Value.slice fa j fc).ownBlock = some k → q ≠ k ∧ tb ≠ k ∧ mb ≠ k ∧ ∀ e ∈ s.es, e.p ≠ k := fun k hk => by
        obtain ⟨cur, hcur⟩ := own_heap hfl hk
        exact ⟨ne_of_heap hQ.out.1.que hcur (by simp), ne_of_heap hQ.out.1.tab.tab hcur (by simp), ne_of_heap hQ.out.1.tab.map hcur (by simp [mapObj]), fun e he => ne_of_heap (hQ.out.1.tab.reqs e he) hcur (by simp)⟩
      have hq1 : W1.heap[q]? = some (.cells (qCells tb (.slice fa j fc) (dSta s D)) 80 (0, 0)) := by
        rw [hc1.block q (lt_of_heap hQ.out.1.que) fun hk => (hne q hk).1 rfl, hQ.out.1.que, hn]
      have c2 : W1.cell? ⟨q, 2, none⟩ = some (.slice fa j fc) := cell_of hq1 rfl
      have f2 : W1.frozen? ⟨q, 2, none⟩ = false := free_of hq1
      have c1 : (W1.setCell ⟨q, 2, none⟩ (.slice fa 0 fc)).cell? ⟨q, 1, none⟩ = some (ptr tb) := cell_of (heap_setCell (i := 2) _ hq1) (by rw [qCells_fl]; rfl)
      have c0 := (hQ.out.1).c2
      rw [hn] at c0
      have hc2 : Chg (fun k => k = q ∨ (Value.slice fa j fc).ownBlock = some k) wr (W1.setCell ⟨q, 2, none⟩ (.slice fa 0 fc)) := (hc1.mono fun k _ hk => .inr hk).then ((chg_set _).mono fun k _ hk => .inl hk)
      have hT2 := hQ.out.1.tab.kept hc2 (fun hk => hk.elim (fun e => hQ.out.1.ne_qt e.symm) fun e => (hne tb e).2.1 rfl) (fun hk => hk.elim (fun e => hQ.out.1.ne_qm e.symm) fun e => (hne mb e).2.2.1 rfl) (fun e he hk => hk.elim (fun x => hQ.out.1.ne_qp he x.symm) fun x => (hne e.p x).2.2.2 e he rfl)
      have HT2 := Lib.hid hT2
      have HQ1 := Lib.hid hq1
      have HW1 := Lib.hid hw1
      have HC2 := Lib.hid hc2
      have HNE := Lib.hid hne
      clear hT2 hq1 hw1 hc2 hne hfl hc1
      go_wp2_with fail
      refine (clear_any tb mb clock s.last s.held s.es _ HT2.out).mono ?_
      rintro x w3 ⟨rfl, hT3, hc3⟩
      have hq3 : w3.heap[q]? = some (.cells (qCells tb (.slice fa 0 fc) (dSta s D)) 80 (0, 0)) := by
        rw [hc3.block q (by simpa using lt_of_heap HQ1.out) (fun hk => hk.elim (fun e => hQ.out.1.ne_qt e) fun e => hQ.out.1.ne_qm e), heap_setCell (i := 2) _ HQ1.out, qCells_fl]
      have k4 : w3.cell? ⟨q, 4, none⟩ = some (.int .i64 s.head) := cell_of hq3 rfl
      have kf4 : w3.frozen? ⟨q, 4, none⟩ = false := free_of hq3
      have HQ3 := Lib.hid hq3
      have HT3 := Lib.hid hT3
      have HC3 := Lib.hid hc3
      clear hq3 hT3 hc3
      go_wp2_with fail
      go_end0
      have hfin : (w3.setCell ⟨q, 4, none⟩ (.int .i64 0)).heap[q]? = some (.cells (qCells tb (.slice fa 0 fc) { s with es := [], held := 0, cs := [], head := 0, disk := D }) 80 (0, 0)) := by
        rw [heap_setCell (i := 4) _ HQ3.out, qCells_hd]; rfl
      have hQS := hQ.out.1
      refine ⟨rfl, ⟨tb, mb, clock, .slice fa 0 fc, ⟨by rw [hn, HD.out]; exact hfin, HT3.out.kept (S := fun k => k = q) (chg_set _) (fun e => hQS.ne_qt e.symm) (fun e => hQS.ne_qm e.symm) (fun e he => by cases he), ?_, (fun c hc => by cases hc), by rw [hn, HD.out]; exact hQS.disk⟩, fun k hk => HF.out k ?_⟩, ?_⟩
      · refine ownsRow_chg (ownsRow_chg HW1.out (S := fun k => k = q ∨ k = tb ∨ k = mb) (((chg_set _).mono fun k _ hk => .inl hk).then (HC3.out.mono fun k _ hk => .inr hk)) fun k hk hh => ?_) (S := fun k => k = q) (chg_set _) fun k hk hh => (HNE.out k ((own_len _ _ _ _).trans hk)).1 hh.symm
        obtain ⟨n1, n2, n3, _⟩ := HNE.out k ((own_len _ _ _ _).trans hk)
        rcases hh with e | e | e
        · exact n1 e.symm
        · exact n2 e.symm
        · exact n3 e.symm
      · rcases hk with h | h | h | h | ⟨e, he, h⟩ | ⟨c, hc, h⟩
        · exact .inl h
        · exact .inr (.inl h)
        · exact .inr (.inr (.inl h))
        · exact .inr (.inr (.inr (.inl ((own_len _ _ _ _).trans h))))
        · cases he
        · cases hc
      · have h1 : Chg F w wr := hQ.out.2.mono fun k _ hk => hk ▸ hqF
        have h2 : Chg F w (W1.setCell ⟨q, 2, none⟩ (.slice fa 0 fc)) := h1.then (HC2.out.mono fun k _ hk => hk.elim (fun e => e ▸ hqF) fun e => HF.out k (.inr (.inr (.inr (.inl ((own_len _ _ _ _).trans e))))))
        have h3 : Chg F w w3 := h2.then (HC3.out.mono fun k _ hk => hk.elim (fun e => HF.out k (.inr (.inl e))) fun e => HF.out k (.inr (.inr (.inl e))))
        exact h3.setCell (p := ⟨q, 4, none⟩) (.inl hqF) _
end Go.Proofs.YticobikhndlejabGreatDoor

/- Flights, Waiting, Crash in plain states. -/
namespace Go.Proofs.YticobikhndlejabGreatDoor
open Go.RowKit Go.Shelf Go.Lib

theorem cmd_len {t : St} (h : t.Ok) {c : Cmd} (hc : c ∈ t.cs) : (c.nums.length : Int) ≤ t.last := by
  have hnd : c.nums.Nodup := (List.pairwise_flatMap.1 h.a.rs.nodup).1 c hc
  have := len_sub c.nums hnd (t.rs.map (·.num)) fun n hn => by
    obtain ⟨r, hr, hrn, _⟩ := (h.cmds c hc).ins n hn
    exact List.mem_map.2 ⟨r, hr, hrn⟩
  rw [List.length_map] at this
  have := ok_len h
  omega
theorem er_cs {s : Sta} : s.er.cs = s.cs.map (·.1) := rfl
theorem sta_len {s : Sta} (h : s.er.Ok) (hs : s.er.Small) : (∀ c ∈ s.cs, c.1.nums.length ≤ 1000000) ∧ s.cs.length ≤ 1000 := by
  refine ⟨fun c hc => ?_, ?_⟩
  · have := cmd_len h (c := c.1) (List.mem_map_of_mem hc)
    have := hs.last
    omega
  · have h1 := h.len
    have h2 := h.a.depth
    have h3 : s.er.cs.length = s.cs.length := by simp [Sta.er]
    omega
section
variable {q : Nat} {t : St} {F : Nat → Prop} {w : World}
theorem flights_c (h : QT w q t F) (hk : t.Ok) (hs : t.Small) :
    Calls Tryz.prog 33 #[ptr q] w fun x w' => ∃ v cs', x = .returned v ∧ cs'.map (·.1) = t.cs ∧ CmdsAt w' w.heap.size v cs' ∧ Below w.heap.size w w' := by
  obtain ⟨s, h1, rfl⟩ := h
  exact flights_any q s F w h1 (sta_len hk hs).1 (sta_len hk hs).2
theorem waiting_c (h : QT w q t F) (hk : t.Ok) (hs : t.Small) :
    Calls Tryz.prog 39 #[ptr q] w fun x w' => ∃ v, x = .returned v ∧ w'.ownsRow w.heap.size 3 1 v t.waiting.length (t.waiting.map fun n => Value.int .i64 n) ∧ Below w.heap.size w w' := by
  obtain ⟨s, h1, rfl⟩ := h
  have e : s.er.waiting = waitE s.es := by
    unfold St.waiting waitE Sta.er
    simp only [List.filter_map, List.map_map]
    rfl
  rw [e]
  exact waiting_any q s F w h1
theorem crash_c (h : QT w q t F) (hk : t.Ok) (hs : t.Small) (v : Value) (l : List Bool) (hB : BRow w v l) (hv : ∀ k, v.ownBlock = some k → ¬ F k) :
    Calls Tryz.prog 52 #[ptr q, v] w fun x w' => x = .returned (.tuple #[]) ∧ QT w' q (t.crash fun i => l.getD i false) F ∧ Chg F w w' := by
  obtain ⟨s, h1, rfl⟩ := h
  refine (crash_any q s F w v l h1 hB hv (fun c hc hw n hn => ?_) (sta_len hk hs).1 (sta_len hk hs).2).mono ?_
  · obtain ⟨r, hr, hrn, _⟩ := (hk.cmds c.1 (List.mem_map_of_mem hc)).ins n hn
    obtain ⟨e, he, rfl⟩ := List.mem_map.1 hr
    exact ⟨e, he, hrn⟩
  · rintro x w' ⟨e1, e2, e3⟩
    refine ⟨e1, ⟨_, e2, ?_⟩, e3⟩
    simp [Sta.er, St.crash, wnums]
end
end Go.Proofs.YticobikhndlejabGreatDoor

/- Strings of numbers, cut and joined. -/
namespace Go.Proofs.YticobikhndlejabGreatDoor
open Go.RowKit Go.Shelf Go.Lib

theorem ba_ext {a b : ByteArray} (h : a.data.toList = b.data.toList) : a = b := by
  cases a; cases b
  congr 1
  exact Array.ext' h
theorem son_append (a b : List Int) : strOfNums a ++ strOfNums b = strOfNums (a ++ b) := by
  apply ba_ext
  rw [strOfNums_data, List.map_append, ← strOfNums_data a, ← strOfNums_data b]
  simp [ByteArray.data_append]
theorem son_extract (l : List Int) (i j : Nat) : (strOfNums l).extract i j = strOfNums ((l.take j).drop i) := by
  apply ba_ext
  rw [strOfNums_data]
  simp [ByteArray.data_extract, strOfNums, List.map_drop, List.map_take, List.drop_take]
theorem want_put {D : List Int} (h : D.length = 64) {p : Nat} (hp : p < 16) (d : B4) : (strOfNums D).extract 0 (4 * p) ++ bytesOf d ++ (strOfNums D).extract (4 * p + 4) 64 = strOfNums (dput D p d) := by
  rw [dput_split h hp d, ← son_append, ← son_append, son_extract, son_extract, List.take_of_length_le (Nat.le_of_eq h), ByteArray.append_assoc]
  rfl
/-- A page's bytes. -/
theorem want_get {D : List Int} (h : D.length = 64) : bytesOf (dget D 3) = (strOfNums D).extract 12 16 := by
  rw [son_extract]
  unfold bytesOf dget
  congr 1
  apply List.ext_getElem?
  intro i
  by_cases hi : i < 4
  · have : i = 0 ∨ i = 1 ∨ i = 2 ∨ i = 3 := by omega
    rcases this with rfl | rfl | rfl | rfl <;> simp [List.getElem?_drop, List.getElem?_take, h]
  · rw [List.getElem?_eq_none (by simp; omega), List.getElem?_eq_none (by simp; omega)]
theorem conv_row {w : World} {base n : Nat} {a : Option Addr} {c : Nat} {l : List Int} (h : w.ownsRow base 5 1 (.slice a n c) n (l.map fun b => Value.int .u8 b)) (hn : l.length = n) (h0 : 0 < n) :
    (convert 45 9 (.slice a n c)).run Tryz.prog w = .ok (.string (strOfNums l)) w := by
  rcases h.2 with ⟨_, e⟩ | ⟨g, cap, cur, e, h2, h3, h4, h5, h6, h7⟩
  · omega
  simp only [Value.slice.injEq] at e
  obtain ⟨rfl, _, rfl⟩ := e
  refine run_convert_bytes_arg (P := Tryz.prog) w 45 5 Tryz.underlying45 Tryz.underlying5 g 0 n c l hn (fun i hi => ?_) 9 Tryz.underlying9
  refine cell_of h3 ?_
  rw [Nat.zero_add, ← Array.getElem?_toList]
  have h8 : (l.map fun b => Value.int .u8 b)[i]? = some (.int .u8 (l.getD i 0)) := by
    rw [List.getElem?_map, List.getElem?_eq_getElem (by omega)]
    simp [List.getD_eq_getElem?_getD, List.getElem?_eq_getElem (show i < l.length by omega)]
  rw [← h7, List.getElem?_take_of_lt (by omega)] at h8
  exact h8
/-- Who writes in the first j commands. -/
def wnT (cs : List Cmd) (j : Nat) : List Int := ((cs.take j).filter (·.write)).flatMap (·.nums)
theorem wnT_succ {cs : List Cmd} {j : Nat} {c : Cmd} (h : cs[j]? = some c) : wnT cs (j + 1) = wnT cs j ++ (if c.write then c.nums else []) := by
  obtain ⟨h1, h2⟩ := List.getElem?_eq_some_iff.1 h
  unfold wnT
  rw [List.take_succ_eq_append_getElem h1, h2, List.filter_append, List.flatMap_append]
  congr 1
  cases hw : c.write <;> simp [hw]
theorem wnT_all {cs : List Cmd} {j : Nat} (h : cs.length ≤ j) : wnT cs j = (cs.filter (·.write)).flatMap (·.nums) := by
  unfold wnT
  rw [List.take_of_length_le h]
end Go.Proofs.YticobikhndlejabGreatDoor
