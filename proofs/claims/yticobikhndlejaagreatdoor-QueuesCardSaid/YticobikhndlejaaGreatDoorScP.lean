/- The document's queue: drop by contract. -/
import Derived.Test.YticobikhndlejaaGreatDoorScO
import Derived.Laws.BytesArg
namespace Go.Proofs.YticobikhndlejaaGreatDoor
open Go.RowKit Go.Shelf Go.Lib

theorem erase_take_ne {α : Type} {l : List α} {k j : Nat} {x : α} (hx : l[j]? = some x) (hne : j ≠ k) : (l.take (j + 1)).eraseIdx k = (l.take j).eraseIdx k ++ [x] := by
  obtain ⟨hl, e⟩ := List.getElem?_eq_some_iff.1 hx
  rw [List.take_succ_eq_append_getElem hl, e]
  by_cases hk : k < j
  · rw [List.eraseIdx_append_of_lt_length (by rw [List.length_take]; omega)]
  · rw [List.eraseIdx_of_length_le (by simp; omega), List.eraseIdx_of_length_le (by simp; omega)]
theorem erase_take_eq {α : Type} {l : List α} {k : Nat} : (l.take (k + 1)).eraseIdx k = (l.take k).eraseIdx k := by
  rw [List.eraseIdx_of_length_le (l := l.take k) (by simp; omega)]
  apply List.ext_getElem?
  intro i
  rw [List.getElem?_eraseIdx, List.getElem?_take, List.getElem?_take, List.getElem?_take]
  by_cases h : i < k
  · simp [h]; intro; omega
  · simp [h]
theorem erase_take_len {α : Type} (l : List α) (k j : Nat) : ((l.take j).eraseIdx k).length ≤ j := by
  have := List.length_eraseIdx_le (l := l.take j) k
  rw [List.length_take] at this
  omega
set_option maxRecDepth 100000 in
set_option maxHeartbeats 2000000 in
/-- One that is not under way is no more. -/
theorem drop_out (k : Nat) (x : RR) (w : World) {q : Nat} {t : St} {l : List RR} {told : List Int} {fs : List (Cmd × Value)} {rv tv fv dv : Value} (h : RB w q t l told fs rv tv fv dv) (hl : l.length ≤ 1000000) (hk : l[k]? = some x) (ha : x.r.inAir = false) :
    Calls Tryz.prog 109 #[ptr q, .int .i64 k] w fun y w' => ∃ rv', y = .returned (.tuple #[]) ∧ RB w' q t (l.eraseIdx k) told fs rv' tv fv dv ∧ (∀ k, RFoot q rv' tv fv dv fs k → RFoot q rv tv fv dv fs k ∨ w.heap.size ≤ k) ∧ Chg (RFoot q rv tv fv dv fs) w w' := by
  obtain ⟨ra, rc, rfl⟩ := own_slice h.reqs
  obtain ⟨m, hm⟩ : ∃ m, l.length = m := ⟨_, rfl⟩
  obtain ⟨g, cap, e, hgl, _, hcell⟩ := h.req hk
  simp only [Value.slice.injEq] at e
  obtain ⟨rfl, hdrop, rfl⟩ := e
  clear hdrop
  have hkm : k < m := by have := (List.getElem?_eq_some_iff.1 hk).1; omega
  have hkI : (k : Int) < (m : Int) := by omega
  have hk0 : (0 : Int) ≤ (k : Int) := by omega
  have r8 : w.cell? ⟨g, k * 10 + 8, none⟩ = some (.bool x.r.inAir) := hcell 8 _ rfl
  rw [ha] at r8
  have c1 := h.c1
  rw [hm] at c1 hl
  have HR := Lib.hid h
  have HM := Lib.hid hm
  obtain ⟨i0, hi, hz0, hz1, hz2⟩ := info_parts Tryz.infoRR
  clear h hcell ha hk hm
  go_enter Tryz.func109, Tryz.ntmps109
  go_wp2_with fail
  go_loopg [4, 5] m (fun kk out i wx => ∃ j, kk = m - j ∧ j ≤ m ∧ i = .int .i64 j ∧ wx.ownsRow w.heap.size 191 10 out ((l.take j).eraseIdx k).length (((l.take j).eraseIdx k).flatMap rrCells) ∧ Below w.heap.size w wx)
  case atStart => exact ⟨0, by simp, by omega, rfl, by simpa using World.ownsRow_nil _ _ _ _, Below.refl _ _⟩
  case round =>
    obtain ⟨j, rfl, hj, rfl, hrow, hB⟩ := hrel
    have hR := HR.out.below hB
    have d1 := hR.c1
    rw [HM.out] at d1
    by_cases hlt : j < m
    · have hltI : (j : Int) < (m : Int) := by omega
      have hj0 : (0 : Int) ≤ (j : Int) := by omega
      by_cases hjk : j = k
      · subst hjk
        have HRW := Lib.hid hrow
        clear hR hrow
        go_wp2_with fail
        go_roundg (m - (j + 1))
        case measure => omega
        case rel => exact ⟨j + 1, rfl, by omega, by go_num, by rw [erase_take_eq]; exact HRW.out, hB⟩
      · have hjkI : ¬ (j : Int) = (k : Int) := by omega
        obtain ⟨y, hy⟩ : ∃ y, l[j]? = some y := ⟨_, List.getElem?_eq_getElem (by have := HM.out; omega)⟩
        obtain ⟨g2, cap2, e2, _, _, hcell⟩ := hR.req hy
        simp only [Value.slice.injEq, Option.some.injEq, Addr.mk.injEq] at e2
        obtain ⟨⟨rfl, _⟩, hdrop, rfl⟩ := e2
        clear hdrop
        have p0 : wr.cell? ⟨g, j * 10, none⟩ = some (.int .i64 y.r.num) := hcell 0 _ rfl
        have p1 : wr.cell? ⟨g, j * 10 + 1, none⟩ = some (.bool y.r.write) := hcell 1 _ rfl
        have p2 : wr.cell? ⟨g, j * 10 + 2, none⟩ = some (.int .i64 y.r.page) := hcell 2 _ rfl
        have p3 : wr.cell? ⟨g, j * 10 + 3, none⟩ = some (.string y.data) := hcell 3 _ rfl
        have p4 : wr.cell? ⟨g, j * 10 + 4, none⟩ = some (.int .i64 y.r.state) := hcell 4 _ rfl
        have p5 : wr.cell? ⟨g, j * 10 + 5, none⟩ = some (.int .i64 y.r.tries) := hcell 5 _ rfl
        have p6 : wr.cell? ⟨g, j * 10 + 6, none⟩ = some (.int .i64 y.r.after) := hcell 6 _ rfl
        have p7 : wr.cell? ⟨g, j * 10 + 7, none⟩ = some (.bool y.r.alone) := hcell 7 _ rfl
        have p8 : wr.cell? ⟨g, j * 10 + 8, none⟩ = some (.bool y.r.inAir) := hcell 8 _ rfl
        have p9 : wr.cell? ⟨g, j * 10 + 9, none⟩ = some (.string y.answer) := hcell 9 _ rfl
        have hel := erase_take_len l k j
        obtain ⟨mm, hmm⟩ : ∃ mm, ((l.take j).eraseIdx k).length = mm := ⟨_, rfl⟩
        rw [hmm] at hrow hel
        have HMM := Lib.hid hmm
        have HY := Lib.hid hy
        have hsz := hB.size
        clear hR hcell hmm hy
        go_wp2_with (at_builtin; refine wpList_append_own _ rfl _ _ 117 rfl w.heap.size 191 i0 _ 10 88 Tryz.underlying117 hi hz0 hz1 hz2 rfl (by decide) _ _ _ rfl (hrow.alloc _) ⟨wr.heap.size, 0, none⟩ 1 1 [.int .i64 y.r.num, .bool y.r.write, .int .i64 y.r.page, .string y.data, .int .i64 y.r.state, .int .i64 y.r.tries, .int .i64 y.r.after, .bool y.r.alone, .bool y.r.inAir, .string y.answer] rfl rfl (World.news_of_block (World.alloc_heap_new wr _)) (by simp [Value.oneCell']) ?_ ?_ ?_ ?_)
        · unfold maxLen; omega
        · omega
        · first | omega | (simp; omega)
        intro v' w3 hown' hgrow _
        have hB3 : Below w.heap.size w w3 := (hB.alloc hB.size _).grown hgrow (by simp; omega) (fun k ek => (hrow.lt k ek).1)
        have HO := Lib.hid hown'
        clear hown' hgrow hrow
        go_wp2
        go_roundg (m - (j + 1))
        case measure => omega
        case rel => exact ⟨j + 1, rfl, by omega, by go_num, by rw [erase_take_ne HY.out hjk, List.length_append, List.flatMap_append, HMM.out]; simpa [rrCells] using HO.out, hB3⟩
    · obtain rfl : j = m := by omega
      have hall : l.take j = l := List.take_of_length_le (by have := HM.out; omega)
      rw [hall] at hrow
      obtain ⟨oa, oc, rfl⟩ := own_slice hrow
      obtain ⟨W3, rfl⟩ : ∃ z, z = wr := ⟨_, rfl⟩
      have hf := hR.free
      have hq1 := d1
      obtain ⟨hset, hch, hft⟩ := HR.out.setR ((chgB hB _)) (ownsRow_lowS hrow (Nat.zero_le _)) fun k hk => .inr (hrow.lt k hk).1
      have HS := Lib.hid hset
      have HC := Lib.hid hch
      have HF := Lib.hid hft
      clear hR hrow hall hset hch hft
      go_wp2_with fail
      go_end0
      exact ⟨_, rfl, HS.out, HF.out, HC.out.mono fun k _ hk => hk.elim (fun e => .inl e) fun e => .inr (.inl e)⟩
/-- A request is told. -/
theorem drop_r (k : Nat) (x : RR) (w : World) {q : Nat} {t : St} {l : List RR} {told : List Int} {fs : List (Cmd × Value)} {rv tv fv dv : Value} (h : RB w q t l told fs rv tv fv dv) (h2 : RRel l told t) (hk : t.Ok) (hsm : t.Small) (hx : l[k]? = some x) (ht : x.r.told = false) :
    Calls Tryz.prog 109 #[ptr q, .int .i64 k] w fun y w' => ∃ l' told' rv' tv', y = .returned (.tuple #[]) ∧ RB w' q (t.tell x.r.num) l' told' fs rv' tv' fv dv ∧ RRel l' told' (t.tell x.r.num) ∧ (∀ k, RFoot q rv' tv' fv dv fs k → RFoot q rv tv fv dv fs k ∨ w.heap.size ≤ k) ∧ Chg (RFoot q rv tv fv dv fs) w w' := by
  have hl := h2.tlen hk hsm
  have hs := hk.a.rs.nums
  cases ha : x.r.inAir with
  | true =>
    refine (drop_air k x w h (by omega) (by omega) hx ha).mono ?_
    rintro y w' ⟨tv', e, hR, hF, hC⟩
    exact ⟨l.set k (tellX x), told ++ [x.r.num], rv, tv', e, ⟨hR.que, by rw [List.length_set, rr_tell hx]; exact hR.reqs, hR.tol, hR.fls, hR.fcs, hR.dsk, hR.tf⟩, rrel_tell_air h2 hs (fun y hy ht => ((hk.a.rs.ok y hy).told ht).2) hx ha ht, hF, hC⟩
  | false =>
    refine (drop_out k x w h (by omega) hx ha).mono ?_
    rintro y w' ⟨rv', e, hR, hF, hC⟩
    exact ⟨l.eraseIdx k, told, rv', tv, e, hR.st rfl rfl rfl rfl rfl rfl, rrel_tell_drop h2 hs hx ha ht, hF, hC⟩
end Go.Proofs.YticobikhndlejaaGreatDoor

/- package plain by contracts: New, Read, Write, Poll, Complete. -/
namespace Go.Proofs.YticobikhndlejaaGreatDoor
open Go.RowKit Go.Shelf Go.Lib

/-- An error value, taken apart. -/
inductive ErrIs (w : World) : Value → Int → Int → Int → Prop
  | nil : ErrIs w .nilIface 0 (-1) 0
  | kind (k : Int) (hk : 0 ≤ k ∧ k ≤ 10) : ErrIs w (errK k) k (-1) 0
  | req (b : Nat) (r t k : Int) (hk : 0 ≤ k ∧ k ≤ 10) (h : ReqErr w b r t k) : ErrIs w (errR b) k r t
theorem told_any {w : World} {err : Value} {k r t : Int} (hg : ErrVar w) (h : ErrIs w err k r t) : Calls Tryz.prog 34 #[err] w fun e w' => e = .returned (plErr k r t) ∧ Below w.heap.size w w' := by
  cases h with
  | nil => exact told_nil w
  | kind k hk => exact told_K k w hk hg
  | req b r t k hk h => exact told_R b r t k w hk hg h
abbrev zErr : Obj := .cells #[.int .i64 0, .int .i64 0, .int .i64 0, .bool false] 39
theorem err_set {W : World} {b : Nat} {x0 x1 x2 x3 : Value} {t : TypeId} (y0 y1 y2 y3 : Value) (h : W.heap[b]? = some (.cells #[x0, x1, x2, x3] t (0, 0))) :
    ((((W.setCell ⟨b, 0, none⟩ y0).setCell ⟨b, 1, none⟩ y1).setCell ⟨b, 2, none⟩ y2).setCell ⟨b, 3, none⟩ y3).heap[b]? = some (.cells #[y0, y1, y2, y3] t (0, 0)) ∧
    Chg (fun k => k = b) W ((((W.setCell ⟨b, 0, none⟩ y0).setCell ⟨b, 1, none⟩ y1).setCell ⟨b, 2, none⟩ y2).setCell ⟨b, 3, none⟩ y3) :=
  ⟨heap_setCell (i := 3) _ (heap_setCell (i := 2) _ (heap_setCell (i := 1) _ (heap_setCell (i := 0) _ h))), (((chg_set _).then (chg_set _)).then (chg_set _)).then (chg_set _)⟩

set_option maxRecDepth 100000 in
theorem plRead_of (q : Nat) (page k r t : Int) (w : World) (P : Value → Value → World → Prop)
    (hM : Calls Tryz.prog 46 #[ptr q, .int .i64 page] (w.alloc zErr) fun x w' => ∃ X err, x = .returned (.tuple #[X, err]) ∧ P X err w')
    (hP : ∀ X err w', P X err w' → ErrVar w' ∧ ErrIs w' err k r t ∧ w'.heap[w.heap.size]? = some zErr) :
    Calls Tryz.prog 25 #[ptr q, .int .i64 page] w fun x w' => ∃ X err w1, x = .returned (.tuple #[X, plErr k r t]) ∧ P X err w1 ∧ Chg (fun k => k = w.heap.size) w1 w' := by
  have HM := Lib.hid hM
  have HP := Lib.hid hP
  clear hM hP
  go_enter Tryz.func25, Tryz.ntmps25
  go_wp2_with fail
  refine HM.out.mono ?_
  rintro x w1 ⟨X, err, rfl, hp⟩
  obtain ⟨hg, he, hz⟩ := HP.out X err w1 hp
  have HT := Lib.hid (told_any hg he)
  have HPP := Lib.hid hp
  have HZ := Lib.hid hz
  clear hp hg he hz
  go_wp2_with fail
  refine HT.out.mono ?_
  rintro x w2 ⟨rfl, hB⟩
  have hz2 : w2.heap[w.heap.size]? = some zErr := (hB.block _ (lt_of_heap HZ.out)).trans HZ.out
  have z0 : w2.cell? ⟨w.heap.size, 0, none⟩ = some (.int .i64 0) := cell_of hz2 rfl
  have z1 : w2.cell? ⟨w.heap.size, 1, none⟩ = some (.int .i64 0) := cell_of hz2 rfl
  have z2 : w2.cell? ⟨w.heap.size, 2, none⟩ = some (.int .i64 0) := cell_of hz2 rfl
  have z3 : w2.cell? ⟨w.heap.size, 3, none⟩ = some (.bool false) := cell_of hz2 rfl
  have zf : ∀ i, w2.frozen? ⟨w.heap.size, i, none⟩ = false := fun i => free_of hz2
  have HB := Lib.hid hB
  have HZ2 := Lib.hid hz2
  clear hB hz2
  go_wp2_with fail
  obtain ⟨e5, hc5⟩ := err_set (W := w2) (.int .i64 k) (.int .i64 r) (.int .i64 t) (.bool true) HZ2.out
  obtain ⟨W5, hW5⟩ : ∃ W5, ((((w2.setCell ⟨w.heap.size, 0, none⟩ (.int .i64 k)).setCell ⟨w.heap.size, 1, none⟩ (.int .i64 r)).setCell ⟨w.heap.size, 2, none⟩ (.int .i64 t)).setCell ⟨w.heap.size, 3, none⟩ (.bool true)) = W5 := ⟨_, rfl⟩
  rw [hW5] at e5 hc5 ⊢
  have y0 : W5.cell? ⟨w.heap.size, 0, none⟩ = some (.int .i64 k) := cell_of e5 rfl
  have y1 : W5.cell? ⟨w.heap.size, 1, none⟩ = some (.int .i64 r) := cell_of e5 rfl
  have y2 : W5.cell? ⟨w.heap.size, 2, none⟩ = some (.int .i64 t) := cell_of e5 rfl
  have y3 : W5.cell? ⟨w.heap.size, 3, none⟩ = some (.bool true) := cell_of e5 rfl
  refine bodyPost_ret (v := .tuple #[X, plErr k r t]) (by simp [results, Tryz.results25, go_sem, y0, y1, y2, y3]) rfl ⟨X, err, w1, rfl, HPP.out, (chgB HB.out _).then hc5⟩
set_option maxRecDepth 100000 in
theorem plWrite_of (q : Nat) (v : Value) (page k r t : Int) (w : World) (P : Value → Value → World → Prop)
    (hM : Calls Tryz.prog 60 #[ptr q, .int .i64 page, v] (w.alloc zErr) fun x w' => ∃ X err, x = .returned (.tuple #[X, err]) ∧ P X err w')
    (hP : ∀ X err w', P X err w' → ErrVar w' ∧ ErrIs w' err k r t ∧ w'.heap[w.heap.size]? = some zErr) :
    Calls Tryz.prog 33 #[ptr q, .int .i64 page, v] w fun x w' => ∃ X err w1, x = .returned (.tuple #[X, plErr k r t]) ∧ P X err w1 ∧ Chg (fun k => k = w.heap.size) w1 w' := by
  have HM := Lib.hid hM
  have HP := Lib.hid hP
  clear hM hP
  go_enter Tryz.func33, Tryz.ntmps33
  go_wp2_with fail
  refine HM.out.mono ?_
  rintro x w1 ⟨X, err, rfl, hp⟩
  obtain ⟨hg, he, hz⟩ := HP.out X err w1 hp
  have HT := Lib.hid (told_any hg he)
  have HPP := Lib.hid hp
  have HZ := Lib.hid hz
  clear hp hg he hz
  go_wp2_with fail
  refine HT.out.mono ?_
  rintro x w2 ⟨rfl, hB⟩
  have hz2 : w2.heap[w.heap.size]? = some zErr := (hB.block _ (lt_of_heap HZ.out)).trans HZ.out
  have z0 : w2.cell? ⟨w.heap.size, 0, none⟩ = some (.int .i64 0) := cell_of hz2 rfl
  have z1 : w2.cell? ⟨w.heap.size, 1, none⟩ = some (.int .i64 0) := cell_of hz2 rfl
  have z2 : w2.cell? ⟨w.heap.size, 2, none⟩ = some (.int .i64 0) := cell_of hz2 rfl
  have z3 : w2.cell? ⟨w.heap.size, 3, none⟩ = some (.bool false) := cell_of hz2 rfl
  have zf : ∀ i, w2.frozen? ⟨w.heap.size, i, none⟩ = false := fun i => free_of hz2
  have HB := Lib.hid hB
  have HZ2 := Lib.hid hz2
  clear hB hz2
  go_wp2_with fail
  obtain ⟨e5, hc5⟩ := err_set (W := w2) (.int .i64 k) (.int .i64 r) (.int .i64 t) (.bool true) HZ2.out
  obtain ⟨W5, hW5⟩ : ∃ W5, ((((w2.setCell ⟨w.heap.size, 0, none⟩ (.int .i64 k)).setCell ⟨w.heap.size, 1, none⟩ (.int .i64 r)).setCell ⟨w.heap.size, 2, none⟩ (.int .i64 t)).setCell ⟨w.heap.size, 3, none⟩ (.bool true)) = W5 := ⟨_, rfl⟩
  rw [hW5] at e5 hc5 ⊢
  have y0 : W5.cell? ⟨w.heap.size, 0, none⟩ = some (.int .i64 k) := cell_of e5 rfl
  have y1 : W5.cell? ⟨w.heap.size, 1, none⟩ = some (.int .i64 r) := cell_of e5 rfl
  have y2 : W5.cell? ⟨w.heap.size, 2, none⟩ = some (.int .i64 t) := cell_of e5 rfl
  have y3 : W5.cell? ⟨w.heap.size, 3, none⟩ = some (.bool true) := cell_of e5 rfl
  refine bodyPost_ret (v := .tuple #[X, plErr k r t]) (by simp [results, Tryz.results33, go_sem, y0, y1, y2, y3]) rfl ⟨X, err, w1, rfl, HPP.out, (chgB HB.out _).then hc5⟩
set_option maxRecDepth 100000 in
theorem plNew_of (d k r t : Int) (w : World) (P : Value → Value → World → Prop)
    (hM : Calls Tryz.prog 59 #[.int .i64 d] (w.alloc zErr) fun x w' => ∃ X err, x = .returned (.tuple #[X, err]) ∧ P X err w')
    (hP : ∀ X err w', P X err w' → ErrVar w' ∧ ErrIs w' err k r t ∧ w'.heap[w.heap.size]? = some zErr) :
    Calls Tryz.prog 32 #[.int .i64 d] w fun x w' => ∃ X err w1, x = .returned (.tuple #[X, plErr k r t]) ∧ P X err w1 ∧ Chg (fun k => k = w.heap.size) w1 w' := by
  have HM := Lib.hid hM
  have HP := Lib.hid hP
  clear hM hP
  go_enter Tryz.func32, Tryz.ntmps32
  go_wp2_with fail
  refine HM.out.mono ?_
  rintro x w1 ⟨X, err, rfl, hp⟩
  obtain ⟨hg, he, hz⟩ := HP.out X err w1 hp
  have HT := Lib.hid (told_any hg he)
  have HPP := Lib.hid hp
  have HZ := Lib.hid hz
  clear hp hg he hz
  go_wp2_with fail
  refine HT.out.mono ?_
  rintro x w2 ⟨rfl, hB⟩
  have hz2 : w2.heap[w.heap.size]? = some zErr := (hB.block _ (lt_of_heap HZ.out)).trans HZ.out
  have z0 : w2.cell? ⟨w.heap.size, 0, none⟩ = some (.int .i64 0) := cell_of hz2 rfl
  have z1 : w2.cell? ⟨w.heap.size, 1, none⟩ = some (.int .i64 0) := cell_of hz2 rfl
  have z2 : w2.cell? ⟨w.heap.size, 2, none⟩ = some (.int .i64 0) := cell_of hz2 rfl
  have z3 : w2.cell? ⟨w.heap.size, 3, none⟩ = some (.bool false) := cell_of hz2 rfl
  have zf : ∀ i, w2.frozen? ⟨w.heap.size, i, none⟩ = false := fun i => free_of hz2
  have HB := Lib.hid hB
  have HZ2 := Lib.hid hz2
  clear hB hz2
  go_wp2_with fail
  obtain ⟨e5, hc5⟩ := err_set (W := w2) (.int .i64 k) (.int .i64 r) (.int .i64 t) (.bool true) HZ2.out
  obtain ⟨W5, hW5⟩ : ∃ W5, ((((w2.setCell ⟨w.heap.size, 0, none⟩ (.int .i64 k)).setCell ⟨w.heap.size, 1, none⟩ (.int .i64 r)).setCell ⟨w.heap.size, 2, none⟩ (.int .i64 t)).setCell ⟨w.heap.size, 3, none⟩ (.bool true)) = W5 := ⟨_, rfl⟩
  rw [hW5] at e5 hc5 ⊢
  have y0 : W5.cell? ⟨w.heap.size, 0, none⟩ = some (.int .i64 k) := cell_of e5 rfl
  have y1 : W5.cell? ⟨w.heap.size, 1, none⟩ = some (.int .i64 r) := cell_of e5 rfl
  have y2 : W5.cell? ⟨w.heap.size, 2, none⟩ = some (.int .i64 t) := cell_of e5 rfl
  have y3 : W5.cell? ⟨w.heap.size, 3, none⟩ = some (.bool true) := cell_of e5 rfl
  refine bodyPost_ret (v := .tuple #[X, plErr k r t]) (by simp [results, Tryz.results32, go_sem, y0, y1, y2, y3]) rfl ⟨X, err, w1, rfl, HPP.out, (chgB HB.out _).then hc5⟩
set_option maxRecDepth 100000 in
theorem plComplete_of (q : Nat) (fault : Bool) (n k r t : Int) (w : World) (P : Value → World → Prop)
    (hM : Calls Tryz.prog 40 #[ptr q, .int .i64 n, .bool fault] (w.alloc zErr) fun x w' => ∃ err, x = .returned err ∧ P err w')
    (hP : ∀ err w', P err w' → ErrVar w' ∧ ErrIs w' err k r t ∧ w'.heap[w.heap.size]? = some zErr) :
    Calls Tryz.prog 19 #[ptr q, .int .i64 n, .bool fault] w fun x w' => ∃ err w1, x = .returned (plErr k r t) ∧ P err w1 ∧ Chg (fun k => k = w.heap.size) w1 w' := by
  have HM := Lib.hid hM
  have HP := Lib.hid hP
  clear hM hP
  go_enter Tryz.func19, Tryz.ntmps19
  go_wp2_with fail
  refine HM.out.mono ?_
  rintro x w1 ⟨err, rfl, hp⟩
  obtain ⟨hg, he, hz⟩ := HP.out err w1 hp
  have HT := Lib.hid (told_any hg he)
  have HPP := Lib.hid hp
  have HZ := Lib.hid hz
  clear hp hg he hz
  go_wp2_with fail
  refine HT.out.mono ?_
  rintro x w2 ⟨rfl, hB⟩
  have hz2 : w2.heap[w.heap.size]? = some zErr := (hB.block _ (lt_of_heap HZ.out)).trans HZ.out
  have z0 : w2.cell? ⟨w.heap.size, 0, none⟩ = some (.int .i64 0) := cell_of hz2 rfl
  have z1 : w2.cell? ⟨w.heap.size, 1, none⟩ = some (.int .i64 0) := cell_of hz2 rfl
  have z2 : w2.cell? ⟨w.heap.size, 2, none⟩ = some (.int .i64 0) := cell_of hz2 rfl
  have z3 : w2.cell? ⟨w.heap.size, 3, none⟩ = some (.bool false) := cell_of hz2 rfl
  have zf : ∀ i, w2.frozen? ⟨w.heap.size, i, none⟩ = false := fun i => free_of hz2
  have HB := Lib.hid hB
  have HZ2 := Lib.hid hz2
  clear hB hz2
  go_wp2_with fail
  obtain ⟨e5, hc5⟩ := err_set (W := w2) (.int .i64 k) (.int .i64 r) (.int .i64 t) (.bool true) HZ2.out
  obtain ⟨W5, hW5⟩ : ∃ W5, ((((w2.setCell ⟨w.heap.size, 0, none⟩ (.int .i64 k)).setCell ⟨w.heap.size, 1, none⟩ (.int .i64 r)).setCell ⟨w.heap.size, 2, none⟩ (.int .i64 t)).setCell ⟨w.heap.size, 3, none⟩ (.bool true)) = W5 := ⟨_, rfl⟩
  rw [hW5] at e5 hc5 ⊢
  have y0 : W5.cell? ⟨w.heap.size, 0, none⟩ = some (.int .i64 k) := cell_of e5 rfl
  have y1 : W5.cell? ⟨w.heap.size, 1, none⟩ = some (.int .i64 r) := cell_of e5 rfl
  have y2 : W5.cell? ⟨w.heap.size, 2, none⟩ = some (.int .i64 t) := cell_of e5 rfl
  have y3 : W5.cell? ⟨w.heap.size, 3, none⟩ = some (.bool true) := cell_of e5 rfl
  refine bodyPost_ret (v := plErr k r t) (by simp [results, Tryz.results19, go_sem, y0, y1, y2, y3]) rfl ⟨err, w1, rfl, HPP.out, (chgB HB.out _).then hc5⟩
abbrev zAns : Obj := .cells #[.slice none 0 0, .int .i64 0] 43
theorem ErrIs.chg {w W : World} {err : Value} {k r t : Int} (h : ErrIs w err k r t) {S : Nat → Prop} (hc : Chg S w W) (hS : ∀ b, err = errR b → ¬ S b) : ErrIs W err k r t := by
  cases h with
  | nil => exact .nil
  | kind k hk => exact .kind k hk
  | req b r t k hk h => exact .req b r t k hk (h.chg hc (hS b rfl))
set_option maxRecDepth 100000 in
theorem plPoll_of (q : Nat) (n k r t : Int) (w : World) (P : Value → Int → Value → World → Prop)
    (hM : Calls Tryz.prog 36 #[ptr q, .int .i64 n] ((w.alloc zAns).alloc zErr) fun x w' => ∃ va vn vc tr err, x = .returned (.tuple #[.agg #[.slice va vn vc, .int .i64 tr], err]) ∧ P (.slice va vn vc) tr err w')
    (hP : ∀ v tr err w', P v tr err w' → ErrVar w' ∧ ErrIs w' err k r t ∧ w'.heap[w.heap.size]? = some zAns ∧ w'.heap[w.heap.size + 1]? = some zErr) :
    Calls Tryz.prog 16 #[ptr q, .int .i64 n] w fun x w' => ∃ v tr err w1, x = .returned (.tuple #[.agg #[v, .int .i64 tr], plErr k r t]) ∧ P v tr err w1 ∧ w.heap.size + 2 ≤ w1.heap.size ∧ Chg (fun k => k = w.heap.size ∨ k = w.heap.size + 1) w1 w' := by
  have HM := Lib.hid hM
  have HP := Lib.hid hP
  clear hM hP
  go_enter Tryz.func16, Tryz.ntmps16
  go_wp2_with fail
  refine HM.out.mono ?_
  rintro x w1 ⟨va, vn, vc, tr, err, rfl, hp⟩
  obtain ⟨hg, he, hza, hze⟩ := HP.out _ tr err w1 hp
  obtain ⟨W2, hW2⟩ : ∃ W2, w1.alloc (.cells #[.slice va vn vc, .int .i64 tr] 43) = W2 := ⟨_, rfl⟩
  have hB2 : Below w1.heap.size w1 W2 := by rw [← hW2]; exact (Below.refl _ _).alloc (Nat.le_refl _) _
  have hr2 : W2.heap[w1.heap.size]? = some (.cells #[.slice va vn vc, .int .i64 tr] 43 (0, 0)) := by rw [← hW2]; exact World.alloc_heap_new w1 _
  have a0 : W2.cell? ⟨w1.heap.size, 0, none⟩ = some (.slice va vn vc) := cell_of hr2 rfl
  have a1 : W2.cell? ⟨w1.heap.size, 1, none⟩ = some (.int .i64 tr) := cell_of hr2 rfl
  have HG := Lib.hid (hg.chg (chgB hB2 fun _ => False) fun x => x)
  have HE := Lib.hid (he.chg (chgB hB2 fun _ => False) fun _ _ x => x)
  have HA := Lib.hid ((hB2.block _ (lt_of_heap hza)).trans hza)
  have HZ := Lib.hid ((hB2.block _ (lt_of_heap hze)).trans hze)
  have HPP := Lib.hid hp
  have HB2 := Lib.hid hB2
  have hlt2 := lt_of_heap hr2
  have hl1 := lt_of_heap hze
  clear hp hg he hza hze hB2 hr2
  go_wp2_with fail
  have hn1 : w1.heap.size ≠ w.heap.size := by omega
  have hn2 : w1.heap.size ≠ w.heap.size + 1 := by omega
  have hn3 : w.heap.size ≠ w1.heap.size := by omega
  have hn4 : w.heap.size + 1 ≠ w1.heap.size := by omega
  go_region_held3 (fun w' => w'.cell? ⟨w1.heap.size, 0, none⟩ = some (.slice va vn vc) ∧ w'.cell? ⟨w1.heap.size, 1, none⟩ = some (.int .i64 tr)) (go_keep)
    (first
      | (go_at_call 34; refine (told_any (k := k) (r := r) (t := t) ?_ ?_).mono ?_; exact HG.out; exact HE.out.chg ((Chg.refl (fun _ => False) W2).drew) fun _ _ x => x
         rintro e w3 ⟨rfl, hB3⟩
         have e0 : w3.cell? ⟨w1.heap.size, 0, none⟩ = some (.slice va vn vc) := (hB3.cell (p := ⟨w1.heap.size, 0, none⟩) hlt2).trans a0
         have e1 : w3.cell? ⟨w1.heap.size, 1, none⟩ = some (.int .i64 tr) := (hB3.cell (p := ⟨w1.heap.size, 1, none⟩) hlt2).trans a1
         have z0 : w3.cell? ⟨w.heap.size, 0, none⟩ = some (.slice none 0 0) := cell_of ((hB3.block _ (lt_of_heap HA.out)).trans HA.out) rfl
         have z1 : w3.cell? ⟨w.heap.size, 1, none⟩ = some (.int .i64 0) := cell_of ((hB3.block _ (lt_of_heap HA.out)).trans HA.out) rfl
         have zf : ∀ i, w3.frozen? ⟨w.heap.size, i, none⟩ = false := fun i => free_of ((hB3.block _ (lt_of_heap HA.out)).trans HA.out)
         have x0 : w3.cell? ⟨w.heap.size + 1, 0, none⟩ = some (.int .i64 0) := cell_of ((hB3.block _ (lt_of_heap HZ.out)).trans HZ.out) rfl
         have x1 : w3.cell? ⟨w.heap.size + 1, 1, none⟩ = some (.int .i64 0) := cell_of ((hB3.block _ (lt_of_heap HZ.out)).trans HZ.out) rfl
         have x2 : w3.cell? ⟨w.heap.size + 1, 2, none⟩ = some (.int .i64 0) := cell_of ((hB3.block _ (lt_of_heap HZ.out)).trans HZ.out) rfl
         have x3 : w3.cell? ⟨w.heap.size + 1, 3, none⟩ = some (.bool false) := cell_of ((hB3.block _ (lt_of_heap HZ.out)).trans HZ.out) rfl
         have xf : ∀ i, w3.frozen? ⟨w.heap.size + 1, i, none⟩ = false := fun i => free_of ((hB3.block _ (lt_of_heap HZ.out)).trans HZ.out)))
  obtain ⟨f5, fc5⟩ := ans_set (W := w3) (.slice va vn vc) (.int .i64 tr) ((hB3.block _ (lt_of_heap HA.out)).trans HA.out)
  obtain ⟨W4, hW4⟩ : ∃ W4, (w3.setCell ⟨w.heap.size, 0, none⟩ (.slice va vn vc)).setCell ⟨w.heap.size, 1, none⟩ (.int .i64 tr) = W4 := ⟨_, rfl⟩
  rw [hW4] at f5 fc5 ⊢
  have hz4 : W4.heap[w.heap.size + 1]? = some zErr := (fc5.block _ (Nat.lt_of_lt_of_le (lt_of_heap HZ.out) hB3.size) (by omega)).trans ((hB3.block _ (lt_of_heap HZ.out)).trans HZ.out)
  obtain ⟨g5, gc5⟩ := err_set (W := W4) (.int .i64 k) (.int .i64 r) (.int .i64 t) (.bool true) hz4
  obtain ⟨W5, hW5⟩ : ∃ W5, ((((W4.setCell ⟨w.heap.size + 1, 0, none⟩ (.int .i64 k)).setCell ⟨w.heap.size + 1, 1, none⟩ (.int .i64 r)).setCell ⟨w.heap.size + 1, 2, none⟩ (.int .i64 t)).setCell ⟨w.heap.size + 1, 3, none⟩ (.bool true)) = W5 := ⟨_, rfl⟩
  rw [hW5] at g5 gc5 ⊢
  have h5 : W5.heap[w.heap.size]? = some (.cells #[.slice va vn vc, .int .i64 tr] 43 (0, 0)) := (gc5.block _ (lt_of_heap f5) (by omega)).trans f5
  have y0 : W5.cell? ⟨w.heap.size + 1, 0, none⟩ = some (.int .i64 k) := cell_of g5 rfl
  have y1 : W5.cell? ⟨w.heap.size + 1, 1, none⟩ = some (.int .i64 r) := cell_of g5 rfl
  have y2 : W5.cell? ⟨w.heap.size + 1, 2, none⟩ = some (.int .i64 t) := cell_of g5 rfl
  have y3 : W5.cell? ⟨w.heap.size + 1, 3, none⟩ = some (.bool true) := cell_of g5 rfl
  have u0 : W5.cell? ⟨w.heap.size, 0, none⟩ = some (.slice va vn vc) := cell_of h5 rfl
  have u1 : W5.cell? ⟨w.heap.size, 1, none⟩ = some (.int .i64 tr) := cell_of h5 rfl
  have hfin : Chg (fun k => k = w.heap.size ∨ k = w.heap.size + 1) w1 W5 := (((chgB HB2.out _).drew.of_below hB3).then (fc5.mono fun _ _ h => .inl h)).then (gc5.mono fun _ _ h => .inr h)
  go_wp2_with fail
  refine bodyPost_ret (v := .tuple #[.agg #[.slice va vn vc, .int .i64 tr], plErr k r t]) (by simp [results, Tryz.results16, go_sem, y0, y1, y2, y3, u0, u1]) rfl ⟨_, tr, err, w1, rfl, HPP.out, by omega, hfin⟩
end Go.Proofs.YticobikhndlejaaGreatDoor

/- package elevatorkeep by contracts: fine, pick, begun. -/
namespace Go.Proofs.YticobikhndlejaaGreatDoor
open Go.RowKit Go.Shelf Go.Lib

theorem Tryz.eqF0 (w : World) : (binOp BinOp.eql 39 (plErr 0 (-1) 0) (plErr 0 (-1) 0)).run Tryz.prog w = .ok (.bool true) w := by kernel_rfl
theorem Tryz.eqFk (k r t : Int) (hk : k = 1 ∨ k = 2 ∨ k = 3 ∨ k = 4 ∨ k = 5 ∨ k = 6 ∨ k = 7 ∨ k = 8 ∨ k = 9 ∨ k = 10) (w : World) : (binOp BinOp.eql 39 (plErr k r t) (plErr 0 (-1) 0)).run Tryz.prog w = .ok (.bool false) w := by
  rcases hk with rfl | rfl | rfl | rfl | rfl | rfl | rfl | rfl | rfl | rfl <;> kernel_rfl
set_option maxRecDepth 100000 in
theorem fine_yes (w : World) : Calls Tryz.prog 17 #[plErr 0 (-1) 0] w fun x w' => x = .returned (.bool true) ∧ Below w.heap.size w w' := by
  have h := Tryz.eqF0
  go_enter Tryz.func17, Tryz.ntmps17
  go_wp2_with fail
  go_ret
  exact ⟨rfl, by go_grown⟩
set_option maxRecDepth 100000 in
theorem fine_no (k r t : Int) (hk : k = 1 ∨ k = 2 ∨ k = 3 ∨ k = 4 ∨ k = 5 ∨ k = 6 ∨ k = 7 ∨ k = 8 ∨ k = 9 ∨ k = 10) (w : World) : Calls Tryz.prog 17 #[plErr k r t] w fun x w' => x = .returned (.bool false) ∧ Below w.heap.size w w' := by
  have h := Tryz.eqFk k r t hk
  clear hk
  go_enter Tryz.func17, Tryz.ntmps17
  go_wp2_with fail
  go_ret
  exact ⟨rfl, by go_grown⟩
/-- pick. -/
def pickI (c n : Int) : Int := (if c < 0 then -(c + 1) else c) % n
theorem pickI_lt (c : Int) {n : Int} (hn : 0 < n) : 0 ≤ pickI c n ∧ pickI c n < n := ⟨Int.emod_nonneg _ (by omega), Int.emod_lt_of_pos _ hn⟩
set_option maxRecDepth 100000 in
theorem pick_any (c n : Int) (w : World) (hc : -9223372036854775808 ≤ c ∧ c ≤ 9223372036854775807) (hn : 0 < n ∧ n ≤ 1000000) : Calls Tryz.prog 13 #[.int .i64 c, .int .i64 n] w fun x w' => x = .returned (.int .i64 (pickI c n)) ∧ w' = w := by
  have hn0 : (n == 0) = false := by simp; omega
  have hnn : ¬ n = 0 := by omega
  by_cases h0 : c < 0
  · have d0 : decide (c < 0) = true := by simpa using h0
    have w1 : IntKind.i64.wrap (c + 1) = c + 1 := by rw [IntKind.wrap_i64]; omega
    have w2 : IntKind.i64.wrap (-(c + 1)) = -(c + 1) := by rw [IntKind.wrap_i64]; omega
    have e : (-(c + 1)).tmod n = pickI c n := by unfold pickI; rw [if_pos h0, Int.tmod_eq_emod_of_nonneg (by omega)]
    have hp := pickI_lt c hn.1
    have w3 : IntKind.i64.wrap (pickI c n) = pickI c n := by rw [IntKind.wrap_i64]; omega
    clear h0
    go_enter Tryz.func13, Tryz.ntmps13
    go_wp2_with fail
    go_ret
    exact ⟨rfl, rfl⟩
  · have d0 : decide (c < 0) = false := by simpa using h0
    have e : c.tmod n = pickI c n := by unfold pickI; rw [if_neg h0, Int.tmod_eq_emod_of_nonneg (by omega)]
    have hp := pickI_lt c hn.1
    have w3 : IntKind.i64.wrap (pickI c n) = pickI c n := by rw [IntKind.wrap_i64]; omega
    go_enter Tryz.func13, Tryz.ntmps13
    go_wp2_with fail
    go_ret
    exact ⟨rfl, rfl⟩
end Go.Proofs.YticobikhndlejaaGreatDoor

/- package plain by contracts, in plain states. -/
namespace Go.Proofs.YticobikhndlejaaGreatDoor
open Go.RowKit Go.Shelf Go.Lib

theorem zErr_alloc (w : World) : (w.alloc zErr).heap[w.heap.size]? = some zErr := World.alloc_heap_new w _
theorem chg_two {F S T : Nat → Prop} {w w1 w' : World} {o : Obj} (h1 : Chg F (w.alloc o) w1) (h2 : Chg S w1 w') (hF : ∀ k, F k → T k) (hS : ∀ k, S k → T k ∨ w.heap.size ≤ k) : Chg T w w' :=
  (((Chg.refl T w).alloc o).then (h1.mono fun k _ hk => hF k hk)).trans (h2.mono fun k _ hk => hS k hk)
section
variable {q : Nat} {t : St} {F : Nat → Prop} {w : World}
theorem QT.alloc (h : QT w q t F) (o : Obj) : QT (w.alloc o) q t fun k => F k ∧ k < w.heap.size := h.lt.below ((Below.refl _ _).alloc (Nat.le_refl _) _)
theorem new_p (d : Nat) (w : World) (hg : ErrVar w) (hd : 1 ≤ d ∧ d ≤ 4) : Calls Tryz.prog 32 #[.int .i64 d] w fun x w' => ∃ q, x = .returned (.tuple #[ptr q, plErr 0 (-1) 0]) ∧ QT w' q (St.new d) (fun k => w.heap.size < k) ∧ Below w.heap.size w w' := by
  refine (plNew_of d 0 (-1) 0 w (fun X err w' => ∃ q, X = ptr q ∧ err = .nilIface ∧ QT w' q (St.new d) (fun k => w.heap.size < k) ∧ Below (w.heap.size + 1) (w.alloc zErr) w') ?_ ?_).mono ?_
  · refine (new_c d _ hd).mono fun x w' ⟨q, h1, h2, h3, h4⟩ => ⟨ptr q, .nilIface, h1, q, rfl, rfl, h2.mono fun k hk => by simp at hk; omega, by simpa using h4⟩
  · rintro X err w' ⟨q, rfl, rfl, h1, h2⟩
    have hz := zErr_alloc w
    exact ⟨(hg.alloc _).chg (chgB (by simpa using h2) fun _ => False) fun x => x, .nil, (h2.block _ (by simp)).trans hz⟩
  · rintro x w' ⟨X, err, w1, rfl, ⟨q, rfl, rfl, h1, h2⟩, hc⟩
    refine ⟨q, rfl, h1.kept hc fun k hk e => by omega, ?_⟩
    exact Chg.below (chg_two (F := fun _ => False) (chgB (by simpa using h2) _) hc (fun _ x => x) fun k hk => .inr (by omega))
theorem new_bad_p (d : Int) (w : World) (hg : ErrVar w) (hd : d < 1 ∨ 4 < d) : Calls Tryz.prog 32 #[.int .i64 d] w fun x w' => x = .returned (.tuple #[.pointer none, plErr 1 (-1) 0]) ∧ Below w.heap.size w w' := by
  refine (plNew_of d 1 (-1) 0 w (fun X err w' => X = .pointer none ∧ err = errK 1 ∧ w' = w.alloc zErr) ?_ ?_).mono ?_
  · refine (new_no d _ hd).mono fun x w' ⟨h1, h2⟩ => ⟨_, _, h1, rfl, rfl, h2⟩
  · rintro X err w' ⟨rfl, rfl, rfl⟩
    exact ⟨hg.alloc _, .kind 1 (by omega), zErr_alloc w⟩
  · rintro x w' ⟨X, err, w1, rfl, ⟨rfl, rfl, rfl⟩, hc⟩
    exact ⟨rfl, Chg.below (((Chg.refl (fun _ => False) w).alloc _).trans (hc.mono fun k _ hk => .inr (by omega)))⟩
theorem read_p (h : QT w q t F) (hk : t.Ok) (hs : t.Small) (hg : ErrVar w) (hF : ¬ F 0) (hh : t.held < 40) (page : Int) (hp : 0 ≤ page ∧ page < 16) :
    Calls Tryz.prog 25 #[ptr q, .int .i64 page] w fun x w' => x = .returned (.tuple #[.int .i64 (t.last + 1), plErr 0 (-1) 0]) ∧ QT w' q (t.add false page ⟨0, 0, 0, 0⟩) (fun k => F k ∨ w.heap.size < k) ∧ Chg F w w' := by
  refine (plRead_of q page 0 (-1) 0 w (fun X err w' => X = .int .i64 (t.last + 1) ∧ err = .nilIface ∧ QT w' q (t.add false page ⟨0, 0, 0, 0⟩) (fun k => (F k ∧ k < w.heap.size) ∨ (w.alloc zErr).heap.size ≤ k) ∧ Chg (fun k => F k ∧ k < w.heap.size) (w.alloc zErr) w') ?_ ?_).mono ?_
  · exact (read_c (h.alloc zErr) hk hs hh page hp).mono fun x w' ⟨h1, h2, h3⟩ => ⟨_, _, h1, rfl, rfl, h2, h3⟩
  · rintro X err w' ⟨rfl, rfl, h1, h2⟩
    exact ⟨(hg.alloc _).chg h2 fun x => hF x.1, .nil, (h2.block _ (by simp) (by omega)).trans (zErr_alloc w)⟩
  · rintro x w' ⟨X, err, w1, rfl, ⟨rfl, rfl, h1, h2⟩, hc⟩
    refine ⟨rfl, (h1.kept hc fun k hk e => ?_).mono fun k hk => ?_, chg_two h2 hc (fun k x => x.1) fun k hk => .inr (by omega)⟩
    · simp at hk; omega
    · simp at hk; exact hk.imp (fun x => x.1) (fun x => by omega)
theorem read_full_p (h : QT w q t F) (hg : ErrVar w) (hh : 40 ≤ t.held) (page : Int) (hp : 0 ≤ page ∧ page < 16) :
    Calls Tryz.prog 25 #[ptr q, .int .i64 page] w fun x w' => x = .returned (.tuple #[.int .i64 0, plErr 4 (-1) 0]) ∧ Below w.heap.size w w' := by
  refine (plRead_of q page 4 (-1) 0 w (fun X err w' => X = .int .i64 0 ∧ err = errK 4 ∧ w' = w.alloc zErr) ?_ ?_).mono ?_
  · exact (read_full_c (h.alloc zErr) hh page hp).mono fun x w' ⟨h1, h2⟩ => ⟨_, _, h1, rfl, rfl, h2⟩
  · rintro X err w' ⟨rfl, rfl, rfl⟩
    exact ⟨hg.alloc _, .kind 4 (by omega), zErr_alloc w⟩
  · rintro x w' ⟨X, err, w1, rfl, ⟨rfl, rfl, rfl⟩, hc⟩
    exact ⟨rfl, Chg.below (((Chg.refl (fun _ => False) w).alloc _).trans (hc.mono fun k _ hk => .inr (by omega)))⟩
theorem DatV.below {w W : World} {v : Value} {d : B4} (h : DatV w v d) (hb : Below w.heap.size w W) : DatV W v d := h.kept (chgB hb fun _ => False) fun _ x => x.elim
theorem write_p (h : QT w q t F) (hk : t.Ok) (hs : t.Small) (hg : ErrVar w) (hF : ¬ F 0) (hh : t.held < 40) (page : Int) (hp : 0 ≤ page ∧ page < 16) (d : B4) (cap : Nat) (a : Option Addr) (hd : DatV w (.slice a 4 cap) d) :
    Calls Tryz.prog 33 #[ptr q, .int .i64 page, .slice a 4 cap] w fun x w' => x = .returned (.tuple #[.int .i64 (t.last + 1), plErr 0 (-1) 0]) ∧ QT w' q (t.add true page d) (fun k => F k ∨ w.heap.size < k) ∧ Chg F w w' := by
  refine (plWrite_of q (.slice a 4 cap) page 0 (-1) 0 w (fun X err w' => X = .int .i64 (t.last + 1) ∧ err = .nilIface ∧ QT w' q (t.add true page d) (fun k => (F k ∧ k < w.heap.size) ∨ (w.alloc zErr).heap.size ≤ k) ∧ Chg (fun k => F k ∧ k < w.heap.size) (w.alloc zErr) w') ?_ ?_).mono ?_
  · exact (write_c (h.alloc zErr) hk hs hh page hp _ d cap a rfl (hd.below ((Below.refl _ _).alloc (Nat.le_refl _) _))).mono fun x w' ⟨h1, h2, h3⟩ => ⟨_, _, h1, rfl, rfl, h2, h3⟩
  · rintro X err w' ⟨rfl, rfl, h1, h2⟩
    exact ⟨(hg.alloc _).chg h2 fun x => hF x.1, .nil, (h2.block _ (by simp) (by omega)).trans (zErr_alloc w)⟩
  · rintro x w' ⟨X, err, w1, rfl, ⟨rfl, rfl, h1, h2⟩, hc⟩
    refine ⟨rfl, (h1.kept hc fun k hk e => ?_).mono fun k hk => ?_, chg_two h2 hc (fun k x => x.1) fun k hk => .inr (by omega)⟩
    · simp at hk; omega
    · simp at hk; exact hk.imp (fun x => x.1) (fun x => by omega)
theorem write_full_p (h : QT w q t F) (hg : ErrVar w) (hh : 40 ≤ t.held) (page : Int) (hp : 0 ≤ page ∧ page < 16) (cap : Nat) (a : Option Addr) :
    Calls Tryz.prog 33 #[ptr q, .int .i64 page, .slice a 4 cap] w fun x w' => x = .returned (.tuple #[.int .i64 0, plErr 4 (-1) 0]) ∧ Below w.heap.size w w' := by
  refine (plWrite_of q (.slice a 4 cap) page 4 (-1) 0 w (fun X err w' => X = .int .i64 0 ∧ err = errK 4 ∧ w' = w.alloc zErr) ?_ ?_).mono ?_
  · exact (write_full_c (h.alloc zErr) hh page hp cap a).mono fun x w' ⟨h1, h2⟩ => ⟨_, _, h1, rfl, rfl, h2⟩
  · rintro X err w' ⟨rfl, rfl, rfl⟩
    exact ⟨hg.alloc _, .kind 4 (by omega), zErr_alloc w⟩
  · rintro x w' ⟨X, err, w1, rfl, ⟨rfl, rfl, rfl⟩, hc⟩
    exact ⟨rfl, Chg.below (((Chg.refl (fun _ => False) w).alloc _).trans (hc.mono fun k _ hk => .inr (by omega)))⟩
theorem complete_no_p (h : QT w q t F) (hg : ErrVar w) (k : Int) (fault : Bool) (hk : k < 0 ∨ (t.cs.length : Int) ≤ k) :
    Calls Tryz.prog 19 #[ptr q, .int .i64 k, .bool fault] w fun x w' => x = .returned (plErr 10 (-1) 0) ∧ Below w.heap.size w w' := by
  refine (plComplete_of q fault k 10 (-1) 0 w (fun err w' => err = errK 10 ∧ Below (w.alloc zErr).heap.size (w.alloc zErr) w') ?_ ?_).mono ?_
  · exact (complete_no_c (h.alloc zErr) k fault hk).mono fun x w' ⟨h1, h2⟩ => ⟨_, h1, rfl, h2⟩
  · rintro err w' ⟨rfl, h2⟩
    exact ⟨(hg.alloc _).chg (chgB h2 fun _ => False) fun x => x, .kind 10 (by omega), (h2.block _ (by simp)).trans (zErr_alloc w)⟩
  · rintro x w' ⟨err, w1, rfl, ⟨rfl, h2⟩, hc⟩
    exact ⟨rfl, Chg.below (chg_two (F := fun _ => False) (chgB h2 _) hc (fun _ x => x) fun k hk => .inr (by omega))⟩
theorem complete_p (h : QT w q t F) (hk : t.Ok) (hs : t.Small) (hg : ErrVar w) (hF : ¬ F 0) (k : Nat) (fault : Bool) (t' : St) (hc : t.complete k fault = some t') :
    Calls Tryz.prog 19 #[ptr q, .int .i64 k, .bool fault] w fun x w' => x = .returned (plErr 0 (-1) 0) ∧ QT w' q t' F ∧ Chg F w w' := by
  refine (plComplete_of q fault k 0 (-1) 0 w (fun err w' => err = .nilIface ∧ QT w' q t' (fun k => F k ∧ k < w.heap.size) ∧ Chg (fun k => F k ∧ k < w.heap.size) (w.alloc zErr) w') ?_ ?_).mono ?_
  · exact (complete_c (h.alloc zErr) hk hs k fault t' hc).mono fun x w' ⟨h1, h2, h3⟩ => ⟨_, h1, rfl, h2, h3⟩
  · rintro err w' ⟨rfl, h1, h2⟩
    exact ⟨(hg.alloc _).chg h2 fun x => hF x.1, .nil, (h2.block _ (by simp) (by omega)).trans (zErr_alloc w)⟩
  · rintro x w' ⟨err, w1, rfl, ⟨rfl, h1, h2⟩, hc⟩
    exact ⟨rfl, (h1.kept hc fun k hk e => by omega).mono fun k hk => hk.1, chg_two h2 hc (fun k x => x.1) fun k hk => .inr (by omega)⟩
end
end Go.Proofs.YticobikhndlejaaGreatDoor
