/- The document's queue: place, at, ready, first, page by contract. -/
import Derived.Test.YticobikhndlejaaGreatDoorScJ
import Derived.BigQuiet
namespace Go.Proofs.YticobikhndlejaaGreatDoor
open Go.RowKit Go.Shelf Go.Lib

set_option maxRecDepth 100000 in
set_option maxHeartbeats 1000000 in
/-- Where a request lies, told or not. -/
theorem at_r (n : Int) (w : World) {q : Nat} {t : St} {l : List RR} {told : List Int} {fs : List (Cmd × Value)} {rv tv fv dv : Value} (h : RB w q t l told fs rv tv fv dv) (hlen : l.length ≤ 1000000) {k : Nat} {x : RR} (hk : l[k]? = some x) (hx : x.r.num = n) (hno : ∀ y ∈ l.take k, y.r.num ≠ n) :
    Calls Tryz.prog 110 #[ptr q, .int .i64 n] w fun x w' => x = .returned (.int .i64 k) ∧ Below w.heap.size w w' := by
  obtain ⟨ra, rc, rfl⟩ := own_slice h.reqs
  obtain ⟨m, hm⟩ : ∃ m, l.length = m := ⟨_, rfl⟩
  rw [hm] at h hlen
  have hkm : k < m := by have := (List.getElem?_eq_some_iff.1 hk).1; omega
  have HR := Lib.hid h
  clear h
  go_enter Tryz.func110, Tryz.ntmps110
  go_wp2_with fail
  go_loopg [5] (k + 1) (fun kk i wr => ∃ (j : Nat), kk = k + 1 - j ∧ j ≤ k ∧ i = .int .i64 j ∧ Below w.heap.size w wr)
  case atStart => exact ⟨0, by simp, by omega, rfl, Below.refl _ _⟩
  case round =>
    obtain ⟨j, rfl, hj, rfl, hB⟩ := hrel
    have hR := HR.out.below hB
    have d1 := hR.c1
    have hltI : (j : Int) < (m : Int) := by omega
    obtain ⟨y, hy⟩ : ∃ y, l[j]? = some y := ⟨_, List.getElem?_eq_getElem (by omega)⟩
    obtain ⟨g, cap, e, _, _, hcell⟩ := hR.req hy
    simp only [Value.slice.injEq] at e
    obtain ⟨rfl, hdrop, rfl⟩ := e
    clear hdrop
    have p0 : wr.cell? ⟨g, j * 10, none⟩ = some (.int .i64 y.r.num) := hcell 0 _ rfl
    clear hR hcell
    by_cases hjk : j = k
    · subst hjk
      rw [hy] at hk
      obtain rfl := Option.some.inj hk
      rw [hx] at p0
      go_wp2_with fail
      go_ret
      exact ⟨rfl, hB⟩
    · have hne : y.r.num ≠ n := hno y (List.mem_of_getElem? (i := j) (by rw [List.getElem?_take_of_lt (by omega)]; exact hy))
      go_wp2_with fail
      go_roundg (k + 1 - (j + 1))
      case measure => omega
      case rel => exact ⟨j + 1, rfl, by omega, by go_num, hB⟩
set_option maxRecDepth 100000 in
set_option maxHeartbeats 1000000 in
/-- Where a request lies that is not told: there is one. -/
theorem place_yes (n : Int) (w : World) {q : Nat} {t : St} {l : List RR} {told : List Int} {fs : List (Cmd × Value)} {rv tv fv dv : Value} (h : RB w q t l told fs rv tv fv dv) (hlen : l.length ≤ 1000000) (htl : told.length ≤ 1000000) {k : Nat} {x : RR} (hk : l[k]? = some x) (hx : x.r.num = n) (hno : ∀ y ∈ l.take k, y.r.num ≠ n) (hnt : n ∉ told) :
    Calls Tryz.prog 108 #[ptr q, .int .i64 n] w fun x w' => x = .returned (.int .i64 k) ∧ Below w.heap.size w w' := by
  have HT := Lib.hid (isTold_r n w h htl)
  obtain ⟨ra, rc, rfl⟩ := own_slice h.reqs
  obtain ⟨m, hm⟩ : ∃ m, l.length = m := ⟨_, rfl⟩
  rw [hm] at h hlen
  have hkm : k < m := by have := (List.getElem?_eq_some_iff.1 hk).1; omega
  have HR := Lib.hid h
  clear h
  go_enter Tryz.func108, Tryz.ntmps108
  go_wp2_with fail
  refine HT.out.mono ?_
  rintro y w1 ⟨rfl, hB1⟩
  rw [decide_eq_false hnt]
  have HB1 := Lib.hid hB1
  clear hB1
  go_wp2_with fail
  go_loopg [6] (k + 1) (fun kk i wr => ∃ (j : Nat), kk = k + 1 - j ∧ j ≤ k ∧ i = .int .i64 j ∧ Below w.heap.size w wr)
  case atStart => exact ⟨0, by simp, by omega, rfl, HB1.out⟩
  case round =>
    obtain ⟨j, rfl, hj, rfl, hB⟩ := hrel
    have hR := HR.out.below hB
    have d1 := hR.c1
    have hltI : (j : Int) < (m : Int) := by omega
    obtain ⟨y, hy⟩ : ∃ y, l[j]? = some y := ⟨_, List.getElem?_eq_getElem (by omega)⟩
    obtain ⟨g, cap, e, _, _, hcell⟩ := hR.req hy
    simp only [Value.slice.injEq] at e
    obtain ⟨rfl, hdrop, rfl⟩ := e
    clear hdrop
    have p0 : wr.cell? ⟨g, j * 10, none⟩ = some (.int .i64 y.r.num) := hcell 0 _ rfl
    clear hR hcell
    by_cases hjk : j = k
    · subst hjk
      rw [hy] at hk
      obtain rfl := Option.some.inj hk
      rw [hx] at p0
      go_wp2_with fail
      go_ret
      exact ⟨rfl, hB⟩
    · have hne : y.r.num ≠ n := hno y (List.mem_of_getElem? (i := j) (by rw [List.getElem?_take_of_lt (by omega)]; exact hy))
      go_wp2_with fail
      go_roundg (k + 1 - (j + 1))
      case measure => omega
      case rel => exact ⟨j + 1, rfl, by omega, by go_num, hB⟩
set_option maxRecDepth 100000 in
set_option maxHeartbeats 1000000 in
/-- .. there is none. -/
theorem place_no (n : Int) (w : World) {q : Nat} {t : St} {l : List RR} {told : List Int} {fs : List (Cmd × Value)} {rv tv fv dv : Value} (h : RB w q t l told fs rv tv fv dv) (hlen : l.length ≤ 1000000) (htl : told.length ≤ 1000000) (hno : n ∈ told ∨ ∀ y ∈ l, y.r.num ≠ n) :
    Calls Tryz.prog 108 #[ptr q, .int .i64 n] w fun x w' => x = .returned (.int .i64 (-1)) ∧ Below w.heap.size w w' := by
  have HT := Lib.hid (isTold_r n w h htl)
  obtain ⟨ra, rc, rfl⟩ := own_slice h.reqs
  obtain ⟨m, hm⟩ : ∃ m, l.length = m := ⟨_, rfl⟩
  rw [hm] at h hlen
  have HR := Lib.hid h
  obtain ⟨bt, hbt⟩ : ∃ bt, decide (n ∈ told) = bt := ⟨_, rfl⟩
  have hno2 : bt = false → ∀ y ∈ l, y.r.num ≠ n := fun hb => hno.resolve_left (by rw [hb] at hbt; simpa using hbt)
  have HNO := Lib.hid hno2
  have HBT := Lib.hid hbt
  clear h hno hbt hno2
  cases bt
  all_goals
    go_enter Tryz.func108, Tryz.ntmps108
    go_wp2_with fail
    refine HT.out.mono ?_
    rintro y w1 ⟨rfl, hB1⟩
    rw [HBT.out]
    have HB1 := Lib.hid hB1
    clear hB1
    go_wp2_with fail
    go_loopg [6] m (fun kk i wr => ∃ (j : Nat), kk = m - j ∧ j ≤ m ∧ i = .int .i64 j ∧ Below w.heap.size w wr)
    case atStart => exact ⟨0, by simp, by omega, rfl, HB1.out⟩
    case round =>
      obtain ⟨j, rfl, hj, rfl, hB⟩ := hrel
      have hR := HR.out.below hB
      have d1 := hR.c1
      by_cases hlt : j < m
      · have hltI : (j : Int) < (m : Int) := by omega
        obtain ⟨y, hy⟩ : ∃ y, l[j]? = some y := ⟨_, List.getElem?_eq_getElem (by omega)⟩
        obtain ⟨g, cap, e, _, _, hcell⟩ := hR.req hy
        simp only [Value.slice.injEq] at e
        obtain ⟨rfl, hdrop, rfl⟩ := e
        clear hdrop
        have p0 : wr.cell? ⟨g, j * 10, none⟩ = some (.int .i64 y.r.num) := hcell 0 _ rfl
        clear hR hcell
        by_cases hyn : y.r.num = n
        · first
          | (have hc := HNO.out (by first | rfl | trivial) y (List.mem_of_getElem? hy)
             exact absurd hyn hc)
          | (go_wp2_with fail
             go_roundg (m - (j + 1))
             case measure => omega
             case rel => exact ⟨j + 1, rfl, by omega, by go_num, hB⟩)
        · go_wp2_with fail
          go_roundg (m - (j + 1))
          case measure => omega
          case rel => exact ⟨j + 1, rfl, by omega, by go_num, hB⟩
      · obtain rfl : j = m := by omega
        clear hR
        go_wp2_with fail
        go_ret
        exact ⟨rfl, hB⟩
theorem any_take_succ {α : Type} {l : List α} {j : Nat} {a : α} (h : l[j]? = some a) (f : α → Bool) : (l.take (j + 1)).any f = ((l.take j).any f || f a) := by
  obtain ⟨hl, e⟩ := List.getElem?_eq_some_iff.1 h
  rw [List.take_succ_eq_append_getElem hl, List.any_append, e]
  simp
set_option maxRecDepth 100000 in
set_option maxHeartbeats 4000000 in
/-- Is it ready? -/
theorem ready_r (w : World) {q : Nat} {t : St} {l : List RR} {told : List Int} {fs : List (Cmd × Value)} {rv tv fv dv : Value} (h : RB w q t l told fs rv tv fv dv) (hl : l.map (·.r) = t.rs) (hs : t.rs.Pairwise (·.num < ·.num)) (hlen : l.length ≤ 1000000) {k : Nat} {x : RR} (hk : l[k]? = some x) :
    Calls Tryz.prog 142 #[ptr q, .int .i64 k] w fun y w' => y = .returned (.bool (isReadyR t.now t.rs x.r)) ∧ Below w.heap.size w w' := by
  have hrk : t.rs[k]? = some x.r := by rw [← hl, List.getElem?_map, hk]; rfl
  rw [isReadyR_at hs hrk]
  obtain ⟨ra, rc, rfl⟩ := own_slice h.reqs
  obtain ⟨m, hm⟩ : ∃ m, l.length = m := ⟨_, rfl⟩
  rw [hm] at h hlen
  have hkm : k < m := by have := (List.getElem?_eq_some_iff.1 hk).1; omega
  have hkI : (k : Int) < (m : Int) := by omega
  have hk0 : (0 : Int) ≤ (k : Int) := by omega
  obtain ⟨g, cap, e, hgl, _, hcell⟩ := h.req hk
  simp only [Value.slice.injEq] at e
  obtain ⟨rfl, hdrop, rfl⟩ := e
  clear hdrop
  have p0 : w.cell? ⟨g, k * 10, none⟩ = some (.int .i64 x.r.num) := hcell 0 _ rfl
  have p1 : w.cell? ⟨g, k * 10 + 1, none⟩ = some (.bool x.r.write) := hcell 1 _ rfl
  have p2 : w.cell? ⟨g, k * 10 + 2, none⟩ = some (.int .i64 x.r.page) := hcell 2 _ rfl
  have p3 : w.cell? ⟨g, k * 10 + 3, none⟩ = some (.string x.data) := hcell 3 _ rfl
  have p4 : w.cell? ⟨g, k * 10 + 4, none⟩ = some (.int .i64 x.r.state) := hcell 4 _ rfl
  have p5 : w.cell? ⟨g, k * 10 + 5, none⟩ = some (.int .i64 x.r.tries) := hcell 5 _ rfl
  have p6 : w.cell? ⟨g, k * 10 + 6, none⟩ = some (.int .i64 x.r.after) := hcell 6 _ rfl
  have p7 : w.cell? ⟨g, k * 10 + 7, none⟩ = some (.bool x.r.alone) := hcell 7 _ rfl
  have p8 : w.cell? ⟨g, k * 10 + 8, none⟩ = some (.bool x.r.inAir) := hcell 8 _ rfl
  have p9 : w.cell? ⟨g, k * 10 + 9, none⟩ = some (.string x.answer) := hcell 9 _ rfl
  have c1 := h.c1
  have c4 := h.c4
  have hql := lt_of_heap h.que
  have HR := Lib.hid h
  clear h hcell
  obtain ⟨W, hW⟩ : ∃ W, w.alloc (.cells #[.int .i64 x.r.num, .bool x.r.write, .int .i64 x.r.page, .string x.data, .int .i64 x.r.state, .int .i64 x.r.tries, .int .i64 x.r.after, .bool x.r.alone, .bool x.r.inAir, .string x.answer] 191) = W := ⟨_, rfl⟩
  have hBW : Below w.heap.size w W := by rw [← hW]; exact (Below.refl _ _).alloc (Nat.le_refl _) _
  have hXW : W.heap[w.heap.size]? = some (.cells #[.int .i64 x.r.num, .bool x.r.write, .int .i64 x.r.page, .string x.data, .int .i64 x.r.state, .int .i64 x.r.tries, .int .i64 x.r.after, .bool x.r.alone, .bool x.r.inAir, .string x.answer] 191 (0, 0)) := by rw [← hW]; exact World.alloc_heap_new _ _
  have x1 : W.cell? ⟨w.heap.size, 1, none⟩ = some (.bool x.r.write) := cell_of hXW rfl
  have x2 : W.cell? ⟨w.heap.size, 2, none⟩ = some (.int .i64 x.r.page) := cell_of hXW rfl
  have HW := Lib.hid hW
  have HBW := Lib.hid hBW
  have hwl := lt_of_heap hXW
  have HXW := Lib.hid hXW
  clear hW hBW hXW
  go_enter Tryz.func142, Tryz.ntmps142
  obtain ⟨st, hst⟩ : ∃ z, x.r.state = z := ⟨_, rfl⟩
  obtain ⟨af, haf⟩ : ∃ z, x.r.after = z := ⟨_, rfl⟩
  rw [hst, haf] at HW HXW
  rw [hst] at p4
  rw [haf] at p6
  rw [hst, haf]
  have x4 : W.cell? ⟨w.heap.size, 4, none⟩ = some (.int .i64 st) := cell_of HXW.out rfl
  have x6 : W.cell? ⟨w.heap.size, 6, none⟩ = some (.int .i64 af) := cell_of HXW.out rfl
  have cW := (HBW.out.cell (p := ⟨q, 4, none⟩) hql).trans c4
  clear hst haf
  by_cases h0 : st = 0
  · subst h0
    by_cases haf : af > t.now
    · have hd : decide (af > t.now) = true := decide_eq_true haf
      have hd2 : decide (af ≤ t.now) = false := decide_eq_false (by omega)
      go_wp2_with fail
      rw [HW.out]
      go_quiet (fail)
      go_wp2_with fail
      go_ret
      exact ⟨by simp [hd2], below_drewN HBW.out _⟩
    · have hd : decide (af > t.now) = false := decide_eq_false haf
      have hd2 : decide (af ≤ t.now) = true := decide_eq_true (by omega)
      go_wp2_with fail
      rw [HW.out]
      go_quiet (fail)
      go_wp2_with fail
      go_loopg [6] k (fun kk i wx => ∃ j, kk = k - j ∧ j ≤ k ∧ i = .int .i64 j ∧ ((t.rs.take j).any fun o => stands o x.r) = false ∧ Below W.heap.size W wx)
      case atStart => exact ⟨0, by simp, by omega, rfl, by simp, below_drewN (Below.refl _ _) _⟩
      case round =>
        obtain ⟨j, rfl, hj, rfl, hno, hB⟩ := hrel
        by_cases hlt : j < k
        · have hltI : (j : Int) < (k : Int) := by omega
          have hjm : (j : Int) < (m : Int) := by omega
          have hj0 : (0 : Int) ≤ (j : Int) := by omega
          have hBw := HBW.out.trans (hB.mono HBW.out.size)
          have hR := HR.out.below hBw
          have d1 := hR.c1
          obtain ⟨y, hy⟩ : ∃ y, l[j]? = some y := ⟨_, List.getElem?_eq_getElem (by omega)⟩
          have hyr : t.rs[j]? = some y.r := by rw [← hl, List.getElem?_map, hy]; rfl
          have hsucc := any_take_succ hyr (fun o => stands o x.r)
          rw [hno, Bool.false_or] at hsucc
          obtain ⟨g2, cap2, e2, _, _, hcell2⟩ := hR.req hy
          simp only [Value.slice.injEq, Option.some.injEq, Addr.mk.injEq] at e2
          obtain ⟨⟨rfl, _⟩, hdrop, rfl⟩ := e2
          clear hdrop
          have r0 : wr.cell? ⟨g, j * 10, none⟩ = some (.int .i64 y.r.num) := hcell2 0 _ rfl
          have r1 : wr.cell? ⟨g, j * 10 + 1, none⟩ = some (.bool y.r.write) := hcell2 1 _ rfl
          have r2 : wr.cell? ⟨g, j * 10 + 2, none⟩ = some (.int .i64 y.r.page) := hcell2 2 _ rfl
          have r3 : wr.cell? ⟨g, j * 10 + 3, none⟩ = some (.string y.data) := hcell2 3 _ rfl
          have r4 : wr.cell? ⟨g, j * 10 + 4, none⟩ = some (.int .i64 y.r.state) := hcell2 4 _ rfl
          have r5 : wr.cell? ⟨g, j * 10 + 5, none⟩ = some (.int .i64 y.r.tries) := hcell2 5 _ rfl
          have r6 : wr.cell? ⟨g, j * 10 + 6, none⟩ = some (.int .i64 y.r.after) := hcell2 6 _ rfl
          have r7 : wr.cell? ⟨g, j * 10 + 7, none⟩ = some (.bool y.r.alone) := hcell2 7 _ rfl
          have r8 : wr.cell? ⟨g, j * 10 + 8, none⟩ = some (.bool y.r.inAir) := hcell2 8 _ rfl
          have r9 : wr.cell? ⟨g, j * 10 + 9, none⟩ = some (.string y.answer) := hcell2 9 _ rfl
          have s1 : wr.cell? ⟨w.heap.size, 1, none⟩ = some (.bool x.r.write) := (hB.cell (p := ⟨w.heap.size, 1, none⟩) hwl).trans x1
          have s2 : wr.cell? ⟨w.heap.size, 2, none⟩ = some (.int .i64 x.r.page) := (hB.cell (p := ⟨w.heap.size, 2, none⟩) hwl).trans x2
          have hww := Nat.lt_of_lt_of_le hwl hB.size
          have hwn : w.heap.size ≠ wr.heap.size := by omega
          have hwn2 := hwn.symm
          obtain ⟨yp, hyp⟩ : ∃ z, y.r.page = z := ⟨_, rfl⟩
          obtain ⟨xp, hxp⟩ : ∃ z, x.r.page = z := ⟨_, rfl⟩
          obtain ⟨yw, hyw⟩ : ∃ z, y.r.write = z := ⟨_, rfl⟩
          obtain ⟨xw, hxw⟩ : ∃ z, x.r.write = z := ⟨_, rfl⟩
          obtain ⟨ys, hys⟩ : ∃ z, y.r.state = z := ⟨_, rfl⟩
          obtain ⟨ya, hya⟩ : ∃ z, y.r.inAir = z := ⟨_, rfl⟩
          have hst : stands y.r x.r = ((yp == xp) && ((yw || xw) && ((ys == 0) || ya))) := by unfold stands; rw [hyp, hxp, hyw, hxw, hys, hya]
          rw [hst] at hsucc
          rw [hyw] at r1
          rw [hyp] at r2
          rw [hys] at r4
          rw [hya] at r8
          rw [hxw] at s1
          rw [hxp] at s2
          have HSU := Lib.hid hsucc
          have hfin : ∀ b, stands y.r x.r = b → b = true → ((t.rs.take k).any fun o => stands o x.r) = true := fun b e1 e2 => by
            rw [List.any_eq_true]
            exact ⟨y.r, List.mem_of_getElem? (i := j) (by rw [List.getElem?_take_of_lt hlt]; exact hyr), by rw [e1, e2]⟩
          rw [hst] at hfin
          have HFIN := Lib.hid hfin
          clear hR hcell2 hy hyr hsucc hst hyp hxp hyw hxw hys hya hno hfin
          have go_on : ∀ b, (((yp == xp) && ((yw || xw) && ((ys == 0) || ya))) = b) → b = false → ((t.rs.take (j + 1)).any fun o => stands o x.r) = false := fun b e1 e2 => by rw [HSU.out, e1, e2]
          have HGO := Lib.hid go_on
          clear go_on
          have hBf : ∀ V, Below wr.heap.size wr V → Below W.heap.size W V := fun V hV => hB.trans (hV.mono hB.size)
          have HBF := Lib.hid hBf
          clear hBf
          by_cases hpe : yp = xp
          · subst hpe
            have hys : ys = 0 ∨ ys ≠ 0 := by omega
            cases yw
            all_goals cases xw
            all_goals cases ya
            all_goals rcases hys with rfl | hys
            all_goals
              go_wp2_with fail
              first
              | (go_roundg (k - (j + 1))
                 case measure => omega
                 case rel => exact ⟨j + 1, rfl, by omega, by go_num, HGO.out _ rfl (by first | rfl | (simp; done) | (simp [hys]; done)), HBF.out _ (by go_grown)⟩)
              | (go_ret
                 refine ⟨?_, HBW.out.trans ((HBF.out _ (by go_grown)).mono HBW.out.size)⟩
                 rw [HFIN.out _ rfl (by first | (simp; done) | (simp [hys]; done))]
                 simp)
          · go_wp2_with fail
            go_roundg (k - (j + 1))
            case measure => omega
            case rel => exact ⟨j + 1, rfl, by omega, by go_num, HGO.out _ rfl (by simp [hpe]), HBF.out _ (by go_grown)⟩
        · obtain rfl : j = k := by omega
          go_wp2_with fail
          go_ret
          exact ⟨by simp [hno, hd2], HBW.out.trans (hB.mono HBW.out.size)⟩
  · have hd : (st == 0) = false := by simpa using h0
    have hd3 : decide (st = 0) = false := decide_eq_false h0
    go_wp2_with fail
    rw [HW.out]
    go_quiet (fail)
    go_wp2_with fail
    go_ret
    exact ⟨by simp [h0], below_drewN HBW.out _⟩
end Go.Proofs.YticobikhndlejaaGreatDoor

/- The document's queue in memory: what a store or an append makes of it. -/
namespace Go.Proofs.YticobikhndlejaaGreatDoor
open Go.RowKit Go.Shelf Go.Lib

theorem own_setCell {w : World} {base n size : Nat} {ty : TypeId} {v : Value} {xs : List Value} (h : w.ownsRow base ty size v n xs) {g : Nat} (hv : v.ownBlock = some g) {i : Nat} (hi : i < n * size) (u : Value) : (w.setCell ⟨g, i, none⟩ u).ownsRow base ty size v n (xs.set i u) := by
  refine ⟨by rw [List.length_set]; exact h.1, ?_⟩
  rcases h.2 with ⟨rfl, rfl⟩ | ⟨g', cap, cur, rfl, h2, h3, h4, h5, h6, h7⟩
  · exact .inl ⟨rfl, rfl⟩
  · simp only [Value.ownBlock, Option.some.injEq] at hv
    subst hv
    refine .inr ⟨g', cap, cur.setIfInBounds i u, rfl, h2, heap_setCell (i := i) u h3, h4, h5, by simpa using h6, ?_⟩
    rw [Array.toList_setIfInBounds, List.take_set, h7]
theorem ownsRow_lowS {w : World} {b b' size n : Nat} {t : TypeId} {v : Value} {xs : List Value} (h : w.ownsRow b t size v n xs) (hb : b' ≤ b) : w.ownsRow b' t size v n xs := by
  refine ⟨h.1, ?_⟩
  rcases h.2 with h | ⟨g, cap, cur, e, h2, h3⟩
  · exact .inl h
  · exact .inr ⟨g, cap, cur, e, Nat.le_trans hb h2, h3⟩
theorem own_block {w : World} {base n size : Nat} {ty : TypeId} {v : Value} {xs : List Value} (h : w.ownsRow base ty size v n xs) {g : Nat} (hv : v.ownBlock = some g) : ∃ cur, w.heap[g]? = some (.cells cur ty (0, 0)) := own_heap h hv
section
variable {w W : World} {q : Nat} {t : St} {l : List RR} {told : List Int} {fs : List (Cmd × Value)} {rv tv fv dv : Value}
theorem RB.ne_rv (h : RB w q t l told fs rv tv fv dv) {g : Nat} (hg : rv.ownBlock = some g) : g ≠ q ∧ tv.ownBlock ≠ some g ∧ fv.ownBlock ≠ some g ∧ dv.ownBlock ≠ some g ∧ ∀ c ∈ fs, c.2.ownBlock ≠ some g := by
  obtain ⟨cur, hc⟩ := own_heap h.reqs hg
  refine ⟨fun e => ?_, fun e => ?_, fun e => ?_, fun e => ?_, fun c hc2 e => ?_⟩
  · subst e; exact ne_of_heap hc h.que (by simp) rfl
  · obtain ⟨c2, h2⟩ := own_heap h.tol e; exact ne_of_heap hc h2 (by simp) rfl
  · obtain ⟨c2, h2⟩ := own_heap h.fls.row e; exact ne_of_heap hc h2 (by simp) rfl
  · obtain ⟨c2, h2⟩ := own_heap h.dsk e; exact ne_of_heap hc h2 (by simp) rfl
  · obtain ⟨c3, h2⟩ := own_heap (h.fls.rows c hc2) e; exact ne_of_heap hc h2 (by simp) rfl
theorem RB.ne_tv (h : RB w q t l told fs rv tv fv dv) {g : Nat} (hg : tv.ownBlock = some g) : g ≠ q ∧ rv.ownBlock ≠ some g ∧ fv.ownBlock ≠ some g ∧ dv.ownBlock ≠ some g ∧ ∀ c ∈ fs, c.2.ownBlock ≠ some g := by
  obtain ⟨cur, hc⟩ := own_heap h.tol hg
  refine ⟨fun e => ?_, fun e => ?_, fun e => ?_, fun e => ?_, fun c hc2 e => h.tf c hc2 g hg e⟩
  · subst e; exact ne_of_heap hc h.que (by simp) rfl
  · obtain ⟨c2, h2⟩ := own_heap h.reqs e; exact ne_of_heap hc h2 (by simp) rfl
  · obtain ⟨c2, h2⟩ := own_heap h.fls.row e; exact ne_of_heap hc h2 (by simp) rfl
  · obtain ⟨c2, h2⟩ := own_heap h.dsk e; exact ne_of_heap hc h2 (by simp) rfl
theorem RB.ne_fv (h : RB w q t l told fs rv tv fv dv) {g : Nat} (hg : fv.ownBlock = some g) : g ≠ q ∧ rv.ownBlock ≠ some g ∧ tv.ownBlock ≠ some g ∧ dv.ownBlock ≠ some g ∧ ∀ c ∈ fs, c.2.ownBlock ≠ some g := by
  obtain ⟨cur, hc⟩ := own_heap h.fls.row hg
  refine ⟨fun e => ?_, fun e => ?_, fun e => ?_, fun e => ?_, fun c hc2 e => ?_⟩
  · subst e; exact ne_of_heap hc h.que (by simp) rfl
  · obtain ⟨c2, h2⟩ := own_heap h.reqs e; exact ne_of_heap hc h2 (by simp) rfl
  · obtain ⟨c2, h2⟩ := own_heap h.tol e; exact ne_of_heap hc h2 (by simp) rfl
  · obtain ⟨c2, h2⟩ := own_heap h.dsk e; exact ne_of_heap hc h2 (by simp) rfl
  · obtain ⟨c3, h2⟩ := own_heap (h.fls.rows c hc2) e; exact ne_of_heap hc h2 (by simp) rfl
theorem RB.ne_dv (h : RB w q t l told fs rv tv fv dv) {g : Nat} (hg : dv.ownBlock = some g) : g ≠ q ∧ rv.ownBlock ≠ some g ∧ tv.ownBlock ≠ some g ∧ fv.ownBlock ≠ some g ∧ ∀ c ∈ fs, c.2.ownBlock ≠ some g := by
  obtain ⟨cur, hc⟩ := own_heap h.dsk hg
  refine ⟨fun e => ?_, fun e => ?_, fun e => ?_, fun e => ?_, fun c hc2 e => ?_⟩
  · subst e; exact ne_of_heap hc h.que (by simp) rfl
  · obtain ⟨c2, h2⟩ := own_heap h.reqs e; exact ne_of_heap hc h2 (by simp) rfl
  · obtain ⟨c2, h2⟩ := own_heap h.tol e; exact ne_of_heap hc h2 (by simp) rfl
  · obtain ⟨c2, h2⟩ := own_heap h.fls.row e; exact ne_of_heap hc h2 (by simp) rfl
  · obtain ⟨c3, h2⟩ := own_heap (h.fls.rows c hc2) e; exact ne_of_heap hc h2 (by simp) rfl
theorem RB.ne_cv (h : RB w q t l told fs rv tv fv dv) {c : Cmd × Value} (hcm : c ∈ fs) {g : Nat} (hg : c.2.ownBlock = some g) : g ≠ q ∧ rv.ownBlock ≠ some g ∧ tv.ownBlock ≠ some g ∧ fv.ownBlock ≠ some g ∧ dv.ownBlock ≠ some g := by
  obtain ⟨cur, hc⟩ := own_heap (h.fls.rows c hcm) hg
  refine ⟨fun e => ?_, fun e => ?_, fun e => h.tf c hcm g e hg, fun e => ?_, fun e => ?_⟩
  · subst e; exact ne_of_heap hc h.que (by simp) rfl
  · obtain ⟨c2, h2⟩ := own_heap h.reqs e; exact ne_of_heap hc h2 (by simp) rfl
  · obtain ⟨c2, h2⟩ := own_heap h.fls.row e; exact ne_of_heap hc h2 (by simp) rfl
  · obtain ⟨c2, h2⟩ := own_heap h.dsk e; exact ne_of_heap hc h2 (by simp) rfl
theorem CmdsAt.keptC {v : Value} (h : CmdsAt w 0 v fs) {S : Nat → Prop} (hc : Chg S w W) (hv : ∀ k, v.ownBlock = some k → ¬ S k) (hr : ∀ c ∈ fs, ∀ k, c.2.ownBlock = some k → ¬ S k) : CmdsAt W 0 v fs :=
  ⟨ownsRow_chg h.row hc hv, fun c hc' => ownsRow_chg (h.rows c hc') hc (hr c hc'), h.apart⟩
/-- The requests' row is another one; its block is said anew. -/
theorem RB.reqs' (h : RB w q t l told fs rv tv fv dv) {g : Nat} (hg : rv.ownBlock = some g) (hc : Chg (fun k => k = g) w W) {l' : List RR} (hr : W.ownsRow 0 191 10 rv l'.length (l'.flatMap rrCells)) : RB W q t l' told fs rv tv fv dv := by
  obtain ⟨n1, n2, n3, n4, n5⟩ := h.ne_rv hg
  exact ⟨(hc.block _ (lt_of_heap h.que) (fun e => n1 e.symm)).trans h.que, hr, ownsRow_chg h.tol hc fun k hk e => n2 (e ▸ hk), h.fls.keptC hc (fun k hk e => n3 (e ▸ hk)) fun c hcm k hk e => n5 c hcm (e ▸ hk), h.fcs, ownsRow_chg h.dsk hc fun k hk e => n4 (e ▸ hk), h.tf⟩
theorem rr_size (h : RB w q t l told fs rv tv fv dv) : (l.flatMap rrCells).length = l.length * 10 := rr_len l
/-- One field of one request is written. -/
theorem RB.set1 (h : RB w q t l told fs rv tv fv dv) {g : Nat} (hg : rv.ownBlock = some g) {k : Nat} {x y : RR} (hk : l[k]? = some x) (i : Nat) (hi : i < 10) (v : Value) (e : rrCells y = (rrCells x).set i v) :
    RB (w.setCell ⟨g, k * 10 + i, none⟩ v) q t (l.set k y) told fs rv tv fv dv ∧ Chg (fun k => k = g) w (w.setCell ⟨g, k * 10 + i, none⟩ v) := by
  have hkl := (List.getElem?_eq_some_iff.1 hk).1
  have hc : Chg (fun k => k = g) w (w.setCell ⟨g, k * 10 + i, none⟩ v) := Chg.setCell (S := fun k => k = g) (p := ⟨g, k * 10 + i, none⟩) (Chg.refl _ w) (.inl rfl) v
  refine ⟨h.reqs' hg hc ?_, hc⟩
  rw [List.length_set, rr_set1 i v hi l k hk e]
  exact own_setCell h.reqs hg (by omega) v
/-- The queue's own block is written. -/
theorem RB.que' (h : RB w q t l told fs rv tv fv dv) (hc : Chg (fun k => k = q) w W) {t' : St} (e : W.heap[q]? = some (.cells #[.int .i64 t'.depth, rv, tv, fv, .int .i64 t'.now, .int .i64 t'.head, .int .i64 t'.last, dv] 119 (0, 0))) (hcs : t'.cs = t.cs) (hd : t'.disk = t.disk) : RB W q t' l told fs rv tv fv dv :=
  ⟨e, ownsRow_chg h.reqs hc fun k hk e => (h.ne_rv hk).1 e, ownsRow_chg h.tol hc fun k hk e => (h.ne_tv hk).1 e, h.fls.keptC hc (fun k hk e => (h.ne_fv hk).1 e) fun c hcm k hk e => (h.ne_cv hcm hk).1 e, h.fcs.trans hcs.symm, by rw [hd]; exact ownsRow_chg h.dsk hc fun k hk e => (h.ne_dv hk).1 e, h.tf⟩
theorem RB.st (h : RB w q t l told fs rv tv fv dv) {t' : St} (e1 : t'.depth = t.depth) (e2 : t'.now = t.now) (e3 : t'.head = t.head) (e4 : t'.last = t.last) (e5 : t'.cs = t.cs) (e6 : t'.disk = t.disk) : RB w q t' l told fs rv tv fv dv :=
  ⟨by rw [e1, e2, e3, e4]; exact h.que, h.reqs, h.tol, h.fls, h.fcs.trans e5.symm, by rw [e6]; exact h.dsk, h.tf⟩
end
section
variable {w W : World} {q : Nat} {t : St} {l : List RR} {told : List Int} {fs : List (Cmd × Value)} {rv tv fv dv : Value}
theorem cell_q (e : W.heap[q]? = w.heap[q]?) (h : RB w q t l told fs rv tv fv dv) : W.heap[q]? = some (.cells #[.int .i64 t.depth, rv, tv, fv, .int .i64 t.now, .int .i64 t.head, .int .i64 t.last, dv] 119 (0, 0)) := e.trans h.que
/-- The requests' row is another one (the old one grown, or new). -/
theorem RB.setR (h : RB w q t l told fs rv tv fv dv) (hc : Chg (fun k => rv.ownBlock = some k) w W) {v' : Value} {l' : List RR} (hrow : W.ownsRow 0 191 10 v' l'.length (l'.flatMap rrCells)) (hat : ∀ k, v'.ownBlock = some k → rv.ownBlock = some k ∨ w.heap.size ≤ k) :
    RB (W.setCell ⟨q, 1, none⟩ v') q t l' told fs v' tv fv dv ∧ Chg (fun k => k = q ∨ rv.ownBlock = some k) w (W.setCell ⟨q, 1, none⟩ v') ∧ ∀ k, RFoot q v' tv fv dv fs k → RFoot q rv tv fv dv fs k ∨ w.heap.size ≤ k := by
  have hql := lt_of_heap h.que
  have hq := hc.block q hql fun e => (h.ne_rv e).1 rfl
  have hc2 : Chg (fun k => k = q ∨ rv.ownBlock = some k) w (W.setCell ⟨q, 1, none⟩ v') := Chg.setCell (p := ⟨q, 1, none⟩) (hc.mono fun _ _ e => .inr e) (.inl (.inl rfl)) _
  have hs : Chg (fun k => k = q) W (W.setCell ⟨q, 1, none⟩ v') := Chg.setCell (S := fun k => k = q) (p := ⟨q, 1, none⟩) (Chg.refl _ W) (.inl rfl) _
  refine ⟨⟨heap_setCell (i := 1) _ (cell_q hq h), ownsRow_chg hrow hs fun k hk e => ?_, ownsRow_chg h.tol hc2 fun k hk e => e.elim (fun e => (h.ne_tv hk).1 e) fun e => (h.ne_tv hk).2.1 e, h.fls.keptC hc2 (fun k hk e => e.elim (fun e => (h.ne_fv hk).1 e) fun e => (h.ne_fv hk).2.1 e) fun c hcm k hk e => e.elim (fun e => (h.ne_cv hcm hk).1 e) fun e => (h.ne_cv hcm hk).2.1 e, h.fcs,
    ownsRow_chg h.dsk hc2 fun k hk e => e.elim (fun e => (h.ne_dv hk).1 e) fun e => (h.ne_dv hk).2.1 e, h.tf⟩, hc2, fun k hk => ?_⟩
  · rcases hat k hk with e2 | e2
    · exact (h.ne_rv e2).1 e
    · omega
  · rcases hk with e | e | e
    · exact .inl (.inl e)
    · exact (hat k e).imp (fun e => .inr (.inl e)) id
    · exact .inl (.inr (.inr e))
/-- The row of those told is another one. -/
theorem RB.setT (h : RB w q t l told fs rv tv fv dv) (hc : Chg (fun k => tv.ownBlock = some k) w W) {v' : Value} {told' : List Int} (hrow : W.ownsRow 0 3 1 v' told'.length (told'.map fun n => Value.int .i64 n)) (hat : ∀ k, v'.ownBlock = some k → tv.ownBlock = some k ∨ w.heap.size ≤ k) :
    RB (W.setCell ⟨q, 2, none⟩ v') q t l told' fs rv v' fv dv ∧ Chg (fun k => k = q ∨ tv.ownBlock = some k) w (W.setCell ⟨q, 2, none⟩ v') ∧ ∀ k, RFoot q rv v' fv dv fs k → RFoot q rv tv fv dv fs k ∨ w.heap.size ≤ k := by
  have hql := lt_of_heap h.que
  have hq := hc.block q hql fun e => (h.ne_tv e).1 rfl
  have hc2 : Chg (fun k => k = q ∨ tv.ownBlock = some k) w (W.setCell ⟨q, 2, none⟩ v') := Chg.setCell (p := ⟨q, 2, none⟩) (hc.mono fun _ _ e => .inr e) (.inl (.inl rfl)) _
  have hs : Chg (fun k => k = q) W (W.setCell ⟨q, 2, none⟩ v') := Chg.setCell (S := fun k => k = q) (p := ⟨q, 2, none⟩) (Chg.refl _ W) (.inl rfl) _
  refine ⟨⟨heap_setCell (i := 2) _ (cell_q hq h), ownsRow_chg h.reqs hc2 fun k hk e => e.elim (fun e => (h.ne_rv hk).1 e) fun e => (h.ne_rv hk).2.1 e, ownsRow_chg hrow hs fun k hk e => ?_, h.fls.keptC hc2 (fun k hk e => e.elim (fun e => (h.ne_fv hk).1 e) fun e => (h.ne_fv hk).2.2.1 e) fun c hcm k hk e => e.elim (fun e => (h.ne_cv hcm hk).1 e) fun e => (h.ne_cv hcm hk).2.2.1 e, h.fcs,
    ownsRow_chg h.dsk hc2 fun k hk e => e.elim (fun e => (h.ne_dv hk).1 e) fun e => (h.ne_dv hk).2.2.1 e, fun c hcm k hk e => ?_⟩, hc2, fun k hk => ?_⟩
  · rcases hat k hk with e2 | e2
    · exact (h.ne_tv e2).1 e
    · omega
  · rcases hat k hk with e2 | e2
    · exact h.tf c hcm k e2 e
    · obtain ⟨cur, hcur⟩ := own_heap (h.fls.rows c hcm) e
      have := lt_of_heap hcur; omega
  · rcases hk with e | e | e | e
    · exact .inl (.inl e)
    · exact .inl (.inr (.inl e))
    · exact (hat k e).imp (fun e => .inr (.inr (.inl e))) id
    · exact .inl (.inr (.inr (.inr e)))
/-- The row of the commands is another one: some of the old ones, and new ones. -/
theorem RB.setF (h : RB w q t l told fs rv tv fv dv) (hc : Chg (fun k => fv.ownBlock = some k) w W) {v' : Value} {fs' : List (Cmd × Value)} (hcm : CmdsAt W 0 v' fs') (hat : ∀ k, v'.ownBlock = some k → fv.ownBlock = some k ∨ w.heap.size ≤ k) (hnew : ∀ c ∈ fs', c ∈ fs ∨ ∀ k, c.2.ownBlock = some k → w.heap.size ≤ k ∨ ¬ RFoot q rv tv fv dv fs k) {t' : St} (hcs : fs'.map (·.1) = t'.cs) (e1 : t'.depth = t.depth) (e2 : t'.now = t.now) (e3 : t'.head = t.head) (e4 : t'.last = t.last) (e5 : t'.disk = t.disk) :
    RB (W.setCell ⟨q, 3, none⟩ v') q t' l told fs' rv tv v' dv ∧ Chg (fun k => k = q ∨ fv.ownBlock = some k) w (W.setCell ⟨q, 3, none⟩ v') := by
  have hql := lt_of_heap h.que
  have hq := hc.block q hql fun e => (h.ne_fv e).1 rfl
  have hc2 : Chg (fun k => k = q ∨ fv.ownBlock = some k) w (W.setCell ⟨q, 3, none⟩ v') := Chg.setCell (p := ⟨q, 3, none⟩) (hc.mono fun _ _ e => .inr e) (.inl (.inl rfl)) _
  have hs : Chg (fun k => k = q) W (W.setCell ⟨q, 3, none⟩ v') := Chg.setCell (S := fun k => k = q) (p := ⟨q, 3, none⟩) (Chg.refl _ W) (.inl rfl) _
  refine ⟨⟨by rw [e1, e2, e3, e4]; exact heap_setCell (i := 3) _ (cell_q hq h), ownsRow_chg h.reqs hc2 fun k hk e => e.elim (fun e => (h.ne_rv hk).1 e) fun e => (h.ne_rv hk).2.2.1 e, ownsRow_chg h.tol hc2 fun k hk e => e.elim (fun e => (h.ne_tv hk).1 e) fun e => (h.ne_tv hk).2.2.1 e, hcm.keptC hs (fun k hk e => ?_) (fun c hc' k hk e => ?_), hcs,
    by rw [e5]; exact ownsRow_chg h.dsk hc2 fun k hk e => e.elim (fun e => (h.ne_dv hk).1 e) fun e => (h.ne_dv hk).2.2.2.1 e, fun c hc' k hk e => ?_⟩, hc2⟩
  · rcases hat k hk with e2 | e2
    · exact (h.ne_fv e2).1 e
    · omega
  · rcases hnew c hc' with e2 | e2
    · exact (h.ne_cv e2 hk).1 e
    · rcases e2 k hk with e2 | e2
      · omega
      · exact e2 (.inl e)
  · rcases hnew c hc' with e2 | e2
    · exact h.tf c e2 k hk e
    · rcases e2 k e with e2 | e2
      · have := h.lt (k := k) (.inr (.inr (.inl hk))); omega
      · exact e2 (.inr (.inr (.inl hk)))
end
/-- At q lies the document's queue in state t; its blocks are among G. -/
def RT (w : World) (q : Nat) (t : St) (G : Nat → Prop) : Prop := ∃ l told fs rv tv fv dv, RB w q t l told fs rv tv fv dv ∧ RRel l told t ∧ ∀ k, RFoot q rv tv fv dv fs k → G k
section
variable {w W : World} {q : Nat} {t : St} {G : Nat → Prop}
theorem RT.kept (h : RT w q t G) {S : Nat → Prop} (hc : Chg S w W) (hn : ∀ k, G k → ¬ S k) : RT W q t G := by
  obtain ⟨l, told, fs, rv, tv, fv, dv, h1, h2, h3⟩ := h
  exact ⟨l, told, fs, rv, tv, fv, dv, h1.kept hc fun k hk => hn k (h3 k hk), h2, h3⟩
theorem RT.below (h : RT w q t G) (hb : Below w.heap.size w W) : RT W q t G := h.kept (chgB hb fun _ => False) fun _ _ x => x
theorem RT.mono (h : RT w q t G) {G' : Nat → Prop} (hg : ∀ k, G k → G' k) : RT w q t G' := by
  obtain ⟨l, told, fs, rv, tv, fv, dv, h1, h2, h3⟩ := h
  exact ⟨l, told, fs, rv, tv, fv, dv, h1, h2, fun k hk => hg k (h3 k hk)⟩
theorem RT.lt (h : RT w q t G) : RT w q t fun k => G k ∧ k < w.heap.size := by
  obtain ⟨l, told, fs, rv, tv, fv, dv, h1, h2, h3⟩ := h
  exact ⟨l, told, fs, rv, tv, fv, dv, h1, h2, fun k hk => ⟨h3 k hk, h1.lt hk⟩⟩
theorem RT.qlt (h : RT w q t G) : q < w.heap.size ∧ G q := by
  obtain ⟨l, told, fs, rv, tv, fv, dv, h1, h2, h3⟩ := h
  exact ⟨lt_of_heap h1.que, h3 q (.inl rfl)⟩
end
end Go.Proofs.YticobikhndlejaaGreatDoor
