/- The document's queue: a whole request is written; tried by contract. -/
import Derived.Test.YticobikhndlejaaGreatDoorScP
import Derived.Test.YticobikhndlejaaGreatDoorScU
import Derived.Test.YticobikhndlejaaGreatDoorScK
namespace Go.Proofs.YticobikhndlejaaGreatDoor
open Go.RowKit Go.Shelf Go.Lib

/-- A whole request is written. -/
theorem RB.setX {w : World} {q : Nat} {t : St} {l : List RR} {told : List Int} {fs : List (Cmd × Value)} {rv tv fv dv : Value} (h : RB w q t l told fs rv tv fv dv) {g : Nat} (hg : rv.ownBlock = some g) {k : Nat} {x : RR} (hk : l[k]? = some x) (y : RR) :
    RB ((((((((((w.setCell ⟨g, k * 10, none⟩ (.int .i64 y.r.num)).setCell ⟨g, k * 10 + 1, none⟩ (.bool y.r.write)).setCell ⟨g, k * 10 + 2, none⟩ (.int .i64 y.r.page)).setCell ⟨g, k * 10 + 3, none⟩ (.string y.data)).setCell ⟨g, k * 10 + 4, none⟩ (.int .i64 y.r.state)).setCell ⟨g, k * 10 + 5, none⟩ (.int .i64 y.r.tries)).setCell ⟨g, k * 10 + 6, none⟩ (.int .i64 y.r.after)).setCell ⟨g, k * 10 + 7, none⟩ (.bool y.r.alone)).setCell ⟨g, k * 10 + 8, none⟩ (.bool y.r.inAir)).setCell ⟨g, k * 10 + 9, none⟩ (.string y.answer)) q t (l.set k y) told fs rv tv fv dv ∧ Chg (fun k => k = g) w ((((((((((w.setCell ⟨g, k * 10, none⟩ (.int .i64 y.r.num)).setCell ⟨g, k * 10 + 1, none⟩ (.bool y.r.write)).setCell ⟨g, k * 10 + 2, none⟩ (.int .i64 y.r.page)).setCell ⟨g, k * 10 + 3, none⟩ (.string y.data)).setCell ⟨g, k * 10 + 4, none⟩ (.int .i64 y.r.state)).setCell ⟨g, k * 10 + 5, none⟩ (.int .i64 y.r.tries)).setCell ⟨g, k * 10 + 6, none⟩ (.int .i64 y.r.after)).setCell ⟨g, k * 10 + 7, none⟩ (.bool y.r.alone)).setCell ⟨g, k * 10 + 8, none⟩ (.bool y.r.inAir)).setCell ⟨g, k * 10 + 9, none⟩ (.string y.answer)) := by
  have hkl := (List.getElem?_eq_some_iff.1 hk).1
  have get : ∀ z : RR, (l.set k z)[k]? = some z := fun z => by rw [List.getElem?_set, if_pos rfl, if_pos hkl]
  obtain ⟨f0, c0⟩ := h.set1 hg hk (y := { x with r := { x.r with num := y.r.num } }) 0 (by omega) (.int .i64 y.r.num) rfl
  obtain ⟨x0, hx0⟩ : ∃ z : RR, { x with r := { x.r with num := y.r.num } } = z := ⟨_, rfl⟩
  rw [hx0] at f0
  obtain ⟨f1, c1⟩ := f0.set1 hg (get x0) (y := { x0 with r := { x0.r with write := y.r.write } }) 1 (by omega) (.bool y.r.write) rfl
  obtain ⟨x1, hx1⟩ : ∃ z : RR, { x0 with r := { x0.r with write := y.r.write } } = z := ⟨_, rfl⟩
  rw [List.set_set, hx1] at f1
  obtain ⟨f2, c2⟩ := f1.set1 hg (get x1) (y := { x1 with r := { x1.r with page := y.r.page } }) 2 (by omega) (.int .i64 y.r.page) rfl
  obtain ⟨x2, hx2⟩ : ∃ z : RR, { x1 with r := { x1.r with page := y.r.page } } = z := ⟨_, rfl⟩
  rw [List.set_set, hx2] at f2
  obtain ⟨f3, c3⟩ := f2.set1 hg (get x2) (y := { x2 with data := y.data }) 3 (by omega) (.string y.data) rfl
  obtain ⟨x3, hx3⟩ : ∃ z : RR, { x2 with data := y.data } = z := ⟨_, rfl⟩
  rw [List.set_set, hx3] at f3
  obtain ⟨f4, c4⟩ := f3.set1 hg (get x3) (y := { x3 with r := { x3.r with state := y.r.state } }) 4 (by omega) (.int .i64 y.r.state) rfl
  obtain ⟨x4, hx4⟩ : ∃ z : RR, { x3 with r := { x3.r with state := y.r.state } } = z := ⟨_, rfl⟩
  rw [List.set_set, hx4] at f4
  obtain ⟨f5, c5⟩ := f4.set1 hg (get x4) (y := { x4 with r := { x4.r with tries := y.r.tries } }) 5 (by omega) (.int .i64 y.r.tries) rfl
  obtain ⟨x5, hx5⟩ : ∃ z : RR, { x4 with r := { x4.r with tries := y.r.tries } } = z := ⟨_, rfl⟩
  rw [List.set_set, hx5] at f5
  obtain ⟨f6, c6⟩ := f5.set1 hg (get x5) (y := { x5 with r := { x5.r with after := y.r.after } }) 6 (by omega) (.int .i64 y.r.after) rfl
  obtain ⟨x6, hx6⟩ : ∃ z : RR, { x5 with r := { x5.r with after := y.r.after } } = z := ⟨_, rfl⟩
  rw [List.set_set, hx6] at f6
  obtain ⟨f7, c7⟩ := f6.set1 hg (get x6) (y := { x6 with r := { x6.r with alone := y.r.alone } }) 7 (by omega) (.bool y.r.alone) rfl
  obtain ⟨x7, hx7⟩ : ∃ z : RR, { x6 with r := { x6.r with alone := y.r.alone } } = z := ⟨_, rfl⟩
  rw [List.set_set, hx7] at f7
  obtain ⟨f8, c8⟩ := f7.set1 hg (get x7) (y := { x7 with r := { x7.r with inAir := y.r.inAir } }) 8 (by omega) (.bool y.r.inAir) rfl
  obtain ⟨x8, hx8⟩ : ∃ z : RR, { x7 with r := { x7.r with inAir := y.r.inAir } } = z := ⟨_, rfl⟩
  rw [List.set_set, hx8] at f8
  obtain ⟨f9, c9⟩ := f8.set1 hg (get x8) (y := { x8 with answer := y.answer }) 9 (by omega) (.string y.answer) rfl
  obtain ⟨x9, hx9⟩ : ∃ z : RR, { x8 with answer := y.answer } = z := ⟨_, rfl⟩
  rw [List.set_set, hx9] at f9
  have hlast : rrCells x9 = rrCells y := by subst hx9 hx8 hx7 hx6 hx5 hx4 hx3 hx2 hx1 hx0; rfl
  refine ⟨⟨f9.que, ?_, f9.tol, f9.fls, f9.fcs, f9.dsk, f9.tf⟩, ((((((((c0.then c1).then c2).then c3).then c4).then c5).then c6).then c7).then c8).then c9⟩
  have h9 := f9.reqs
  rw [List.length_set] at h9 ⊢
  rw [← rr_same (l.set k x9) k (get x9) hlast.symm, List.set_set] at h9
  exact h9

/-- string(q.disk[4*p : 4*p+4]). -/
theorem conv_page {w : World} {g cap : Nat} {disk : List Int} (h : w.ownsRow 0 5 1 (.slice (some ⟨g, 0, none⟩) 64 cap) 64 (disk.map fun b => Value.int .u8 b)) (hd : disk.length = 64) {p : Nat} (hp : p < 16) :
    (convert 41 9 (.slice (some ⟨g, 4 * p, none⟩) 4 (cap - 4 * p))).run Tryz.prog w = .ok (.string (str4 (dget disk p))) w := by
  refine run_convert_bytes_arg (P := Tryz.prog) _ 41 5 Tryz.underlying41 Tryz.underlying5 g (4 * p) 4 (cap - 4 * p) _ rfl (fun j hj => ?_) 9 Tryz.underlying9
  · have hcell : ∀ i, i < 64 → w.cell? ⟨g, i, none⟩ = some (.int .u8 (disk.getD i 0)) := fun i hi => by
      obtain ⟨g2, e, _, _, hc⟩ := row_at h (j := i) (x := .int .u8 (disk.getD i 0)) (by rw [List.getElem?_map, List.getD_eq_getElem?_getD, List.getElem?_eq_getElem (show i < disk.length by omega)]; rfl) (by rw [List.length_map, hd])
      simp only [Option.some.injEq, Addr.mk.injEq] at e
      obtain ⟨rfl, _⟩ := e
      exact hc
    have h4' : j < 4 := by simpa using hj
    unfold dget
    simp only [Int.toNat_natCast]
    rcases (show j = 0 ∨ j = 1 ∨ j = 2 ∨ j = 3 by omega) with rfl | rfl | rfl | rfl
    · exact hcell _ (by omega)
    · exact hcell _ (by omega)
    · exact hcell _ (by omega)
    · exact hcell _ (by omega)
theorem erase_setX {α : Type} {rs : List α} {k : Nat} {y : α} : (rs.set k y).eraseIdx k = rs.eraseIdx k := by
  rw [List.eraseIdx_eq_take_drop_succ, List.eraseIdx_eq_take_drop_succ, List.take_set, List.drop_set, if_pos (by omega), List.set_eq_of_length_le (by rw [List.length_take]; omega)]
theorem slice_page (w : World) (g dc p : Nat) (hp : p < 16) (hdc : 64 ≤ dc) : (Instr.sliceAt 41 (.slice (some ⟨g, 0, none⟩) 64 dc) (some (.int .i64 (4 * (p : Int)))) (some (.int .i64 (4 * (p : Int) + 4))) none).run Tryz.prog w = .ok (.slice (some ⟨g, 4 * p, none⟩) 4 (dc - 4 * p)) w := by
  have h1 : (0 : Int) ≤ 4 * (p : Int) := by omega
  have h2 : (4 * (p : Int)) ≤ 4 * (p : Int) + 4 := by omega
  have h3 : (4 * (p : Int) + 4) ≤ (dc : Int) := by omega
  have h4 : (0 : Int) ≤ 4 * (p : Int) + 4 := by omega
  have h5 : ¬ dc = 4 * p := by omega
  have h6 : (4 * (p : Int)).toNat = 4 * p := by omega
  have h7 : (4 * (p : Int) + 4).toNat = 4 * p + 4 := by omega
  go_simp
set_option maxRecDepth 100000 in
set_option maxHeartbeats 4000000 in
/-- A request has had a try more. -/
theorem tried_r (n : Int) (fault : Bool) (w : World) {q : Nat} {t : St} {l : List RR} {told : List Int} {fs : List (Cmd × Value)} {rv tv fv dv : Value} {air : List Int} (h : RB w q t l told fs rv tv fv dv) (h2 : RRel l told t) (hk : t.OkA (n :: air)) (hnow : t.now < 2 ^ 59) (hl : l.length ≤ 1000000) (htl : told.length ≤ 1000000) :
    Calls Tryz.prog 86 #[ptr q, .int .i64 n, .bool fault] w fun y w' => ∃ l' told' rv' tv', y = .returned (.tuple #[]) ∧ RB w' q (t.land fault n) l' told' fs rv' tv' fv dv ∧ RRel l' told' (t.land fault n) ∧ (∀ k, RFoot q rv' tv' fv dv fs k → RFoot q rv tv fv dv fs k ∨ w.heap.size ≤ k) ∧ Chg (RFoot q rv tv fv dv fs) w w' := by
  have hs := hk.rs.nums
  obtain ⟨o, ho, hon, hoa⟩ := hk.rs.fly n (by simp)
  obtain ⟨k, hkk⟩ := List.mem_iff_getElem?.1 ho
  obtain ⟨x, hx, rfl⟩ := h2.back hkk
  have hno : ∀ y ∈ l.take k, y.r.num ≠ n := fun y hy => by
    have hy2 : y.r ∈ t.rs.take k := by
      rw [← h2.rs, ← List.map_take]
      exact List.mem_map_of_mem hy
    have := (sorted_take hs hkk).1 y.r hy2
    omega
  have hrok := hk.rs.ok x.r ho
  have hxo := h2.ok x (List.mem_of_getElem? hx)
  have hst := hrok.air hoa
  have htr := hrok.tries
  have htr3 := hrok.try3 (by simp [Req.live, hoa])
  obtain ⟨p, hp⟩ : ∃ p : Nat, x.r.page = p := ⟨x.r.page.toNat, by have := hrok.page; omega⟩
  have hp16 : p < 16 := by have := hrok.page; omega
  obtain ⟨y, hy⟩ : ∃ y, landX t.now t.disk fault x = y := ⟨_, rfl⟩
  have hdat : x.r.write = true → x.data = str4 x.r.data := hxo.data
  have hnow0 := hk.now
  obtain ⟨ra, rc, rfl⟩ := own_slice h.reqs
  have HAT := Lib.hid (at_r n w h hl hx hon hno)
  have HR := Lib.hid h
  have H2 := Lib.hid h2
  have HX := Lib.hid hx
  have HK := Lib.hid hk
  have HS := Lib.hid hs
  have HP := Lib.hid hp
  have HY := Lib.hid hy
  have HDT := Lib.hid hdat
  have HON := Lib.hid hon
  have HST := Lib.hid hst
  have HROK := Lib.hid hrok
  obtain ⟨m, hm⟩ : ∃ m, l.length = m := ⟨_, rfl⟩
  have hkm : k < m := by have := (List.getElem?_eq_some_iff.1 hx).1; omega
  have hkI : (k : Int) < (m : Int) := by omega
  have hk0 : (0 : Int) ≤ (k : Int) := by omega
  have HM := Lib.hid hm
  clear h h2 hk hx hs hp hy hdat hon hno hkk ho hoa hrok hxo hst hm
  go_enter Tryz.func86, Tryz.ntmps86
  go_wp2_with fail
  refine HAT.out.mono ?_
  rintro yy w2 ⟨rfl, hB⟩
  have hR := HR.out.below hB
  have d1 := hR.c1
  rw [HM.out] at d1
  obtain ⟨g, cap, e, _, _, hcell⟩ := hR.req HX.out
  simp only [Value.slice.injEq] at e
  obtain ⟨rfl, hdrop, rfl⟩ := e
  clear hdrop
  have p0 : w2.cell? ⟨g, k * 10, none⟩ = some (.int .i64 x.r.num) := hcell 0 _ rfl
  have p1 : w2.cell? ⟨g, k * 10 + 1, none⟩ = some (.bool x.r.write) := hcell 1 _ rfl
  have p2 : w2.cell? ⟨g, k * 10 + 2, none⟩ = some (.int .i64 x.r.page) := hcell 2 _ rfl
  have p3 : w2.cell? ⟨g, k * 10 + 3, none⟩ = some (.string x.data) := hcell 3 _ rfl
  have p4 : w2.cell? ⟨g, k * 10 + 4, none⟩ = some (.int .i64 x.r.state) := hcell 4 _ rfl
  have p5 : w2.cell? ⟨g, k * 10 + 5, none⟩ = some (.int .i64 x.r.tries) := hcell 5 _ rfl
  have p6 : w2.cell? ⟨g, k * 10 + 6, none⟩ = some (.int .i64 x.r.after) := hcell 6 _ rfl
  have p7 : w2.cell? ⟨g, k * 10 + 7, none⟩ = some (.bool x.r.alone) := hcell 7 _ rfl
  have p8 : w2.cell? ⟨g, k * 10 + 8, none⟩ = some (.bool x.r.inAir) := hcell 8 _ rfl
  have p9 : w2.cell? ⟨g, k * 10 + 9, none⟩ = some (.string x.answer) := hcell 9 _ rfl
  rw [HP.out] at p2
  obtain ⟨st, hst⟩ : ∃ st, x.r.state = st := ⟨_, rfl⟩
  obtain ⟨tr, htr0⟩ : ∃ tr, x.r.tries = tr := ⟨_, rfl⟩
  obtain ⟨wt, hwt⟩ : ∃ wt, x.r.write = wt := ⟨_, rfl⟩
  have hstc : st = 1 ∨ st = 4 := by have := HST.out; omega
  rw [htr0] at htr htr3
  rw [hst] at p4
  rw [htr0] at p5
  rw [hwt] at p1
  have hwtr : IntKind.i64.wrap (tr + 1) = tr + 1 := by rw [IntKind.wrap_i64]; omega
  have HB := Lib.hid hB
  have HR2 := Lib.hid hR
  have HSTE := Lib.hid hst
  have HTRE := Lib.hid htr0
  have HWTE := Lib.hid hwt
  have hgl2 := lt_of_cell p0
  have hql2 := lt_of_heap hR.que
  clear hcell hR hB hst htr0 hwt
  go_upto_region 4 with fail
  obtain ⟨W3, hW3⟩ : ∃ W3, w2.alloc (.cells #[.int .i64 x.r.num, .bool wt, .int .i64 p, .string x.data, .int .i64 st, .int .i64 (tr + 1), .int .i64 x.r.after, .bool x.r.alone, .bool false, .string x.answer] 191) = W3 := ⟨_, rfl⟩
  have hb3 : W3.heap[w2.heap.size]? = some (.cells #[.int .i64 x.r.num, .bool wt, .int .i64 p, .string x.data, .int .i64 st, .int .i64 (tr + 1), .int .i64 x.r.after, .bool x.r.alone, .bool false, .string x.answer] 191 (0, 0)) := by rw [← hW3]; exact World.alloc_heap_new _ _
  have hB3 : Below w.heap.size w W3 := by rw [← hW3]; exact HB.out.alloc HB.out.size _
  have hR3 := HR.out.below hB3
  have z1 : W3.cell? ⟨w2.heap.size, 1, none⟩ = some (.bool wt) := cell_of hb3 rfl
  have z2 : W3.cell? ⟨w2.heap.size, 2, none⟩ = some (.int .i64 p) := cell_of hb3 rfl
  have z3 : W3.cell? ⟨w2.heap.size, 3, none⟩ = some (.string x.data) := cell_of hb3 rfl
  have z4 : W3.cell? ⟨w2.heap.size, 4, none⟩ = some (.int .i64 st) := cell_of hb3 rfl
  have z5 : W3.cell? ⟨w2.heap.size, 5, none⟩ = some (.int .i64 (tr + 1)) := cell_of hb3 rfl
  have z6 : W3.cell? ⟨w2.heap.size, 6, none⟩ = some (.int .i64 x.r.after) := cell_of hb3 rfl
  have z7 : W3.cell? ⟨w2.heap.size, 7, none⟩ = some (.bool x.r.alone) := cell_of hb3 rfl
  have z9 : W3.cell? ⟨w2.heap.size, 9, none⟩ = some (.string x.answer) := cell_of hb3 rfl
  have zf : ∀ i, W3.frozen? ⟨w2.heap.size, i, none⟩ = false := fun i => free_of hb3
  have hbl := lt_of_heap hb3
  have c4 := hR3.c4
  have c7 := hR3.c7
  have hql3 := lt_of_heap hR3.que
  have hqne : q ≠ w2.heap.size := by omega
  have hqne2 := hqne.symm
  have HW3 := Lib.hid hW3
  have HB3 := Lib.hid hB3
  have HR3 := Lib.hid hR3
  have HBK := Lib.hid hb3
  rw [hW3]
  clear hW3 hB3 hR3 hb3 p0 p1 p2 p3 p4 p5 p6 p7 p8 p9 d1
  obtain ⟨an, han⟩ : ∃ an, y.answer = an := ⟨_, rfl⟩
  have HAN := Lib.hid han
  clear han
  go_upto_if 29 with (fail)
  go_cut [] from 30 to 51 (fun wx => wx.heap[w2.heap.size]? = some (.cells #[.int .i64 x.r.num, .bool wt, .int .i64 p, .string x.data, .int .i64 st, .int .i64 (tr + 1), .int .i64 x.r.after, .bool x.r.alone, .bool false, .string an] 191 (0, 0)) ∧ Hid (RB wx q { t with disk := St.landD t.disk fault x.r } l told fs (.slice (some ⟨g, 0, none⟩) l.length rc) tv fv dv) ∧ Hid (Chg (fun k => dv.ownBlock = some k ∨ k = w2.heap.size) W3 wx))
  case first =>
    cases fault with
    | false =>
      cases wt with
      | true =>
        have HPUT := Lib.hid fun W (hW : Below W3.heap.size W3 W) => put_r p x.r.data x.data W (HR3.out.below hW) HK.out.dlen hp16 HROK.out.byte (HDT.out HWTE.out)
        go_wp2_with fail
        refine (HPUT.out W3 (Below.refl _ _)).mono ?_
        rintro yy w5 ⟨rfl, hR5, hC5⟩
        have H5 := Lib.hid (And.intro hR5 hC5)
        clear hR5 hC5
        go_wp2_with fail
        go_meet
        case rel =>
          obtain ⟨hR5, hC5⟩ := H5.out
          have hnb : ¬ dv.ownBlock = some w2.heap.size := fun e => by have := HR.out.lt (k := w2.heap.size) (.inr (.inr (.inr (.inr (.inl e))))); have := HB.out.size; omega
          have e1 : x.answer = an := by rw [← HAN.out, ← HY.out]; unfold landX; simp [HWTE.out]
          have e2 : St.landD t.disk false x.r = dput t.disk p x.r.data := by unfold St.landD; simp [HWTE.out, HP.out]
          refine ⟨?_, ?_, Lib.hid (hC5.mono fun k _ hk => .inl hk)⟩
          · rw [← e1]; exact (hC5.block _ hbl hnb).trans HBK.out
          · rw [e2]; exact Lib.hid hR5
      | false =>
        obtain ⟨da, dc, rfl⟩ := own_slice HR3.out.dsk
        have hdv : ∃ gd, da = some ⟨gd, 0, none⟩ := by
          rcases HR3.out.dsk.2 with ⟨_, h0⟩ | ⟨gd, _, _, e, _⟩
          · omega
          · simp at e; exact ⟨gd, e.1⟩
        obtain ⟨gd, rfl⟩ := hdv
        have hcp := conv_page HR3.out.dsk HK.out.dlen hp16
        have hw4 : IntKind.i64.wrap (4 * (p : Int)) = 4 * (p : Int) := by rw [IntKind.wrap_i64]; omega
        have hw5 : IntKind.i64.wrap (4 * (p : Int) + 4) = 4 * (p : Int) + 4 := by rw [IntKind.wrap_i64]; omega
        have hdc : 64 ≤ dc := by
          rcases HR3.out.dsk.2 with ⟨_, h0⟩ | ⟨gd2, cap2, _, e, _, _, h4, _⟩
          · omega
          · simp at e; omega
        have hsp := fun W => slice_page W gd dc p hp16 hdc
        have hcpd := conv_page (w := W3.drew) (ownsRow_chg HR3.out.dsk (Chg.drew (Chg.refl (fun _ => False) W3)) fun _ _ z => z) HK.out.dlen hp16
        go_wp2_with fail
        go_still_tail 14, (by kernel_rfl)
        change wpList _ _ _ _ _ W3.drew
        obtain ⟨W4, hW4⟩ : ∃ W4, W3.drew = W4 := ⟨_, rfl⟩
        have z9' : W4.cell? ⟨w2.heap.size, 9, none⟩ = some (.string x.answer) := by rw [← hW4]; exact z9
        have zf' : ∀ i, W4.frozen? ⟨w2.heap.size, i, none⟩ = false := by rw [← hW4]; exact zf
        have hR4 : RB W4 q t l told fs (.slice (some ⟨g, 0, none⟩) l.length rc) tv fv (.slice (some ⟨gd, 0, none⟩) 64 dc) := by rw [← hW4]; exact HR3.out.kept (Chg.drew (Chg.refl (fun _ => False) W3)) fun _ _ z => z
        have hb4 : W4.heap[w2.heap.size]? = some (.cells #[.int .i64 x.r.num, .bool false, .int .i64 p, .string x.data, .int .i64 st, .int .i64 (tr + 1), .int .i64 x.r.after, .bool x.r.alone, .bool false, .string x.answer] 191 (0, 0)) := by rw [← hW4]; exact HBK.out
        have hc4 : Chg (fun _ => False) W3 W4 := by rw [← hW4]; exact Chg.drew (Chg.refl _ _)
        rw [hW4]
        have HR4 := Lib.hid hR4
        have HB4 := Lib.hid hb4
        have HC4 := Lib.hid hc4
        clear hW4 hR4 hb4 hc4 hcp hcpd hsp
        go_wp2_with fail
        go_meet
        case rel =>
          have e1 : str4 (dget t.disk p) = an := by rw [← HAN.out, ← HY.out]; unfold landX; simp [HWTE.out, HP.out]
          have e2 : St.landD t.disk false x.r = t.disk := by unfold St.landD; simp [HWTE.out]
          refine ⟨?_, ?_, Lib.hid ?_⟩
          · rw [← e1]; exact heap_setCell (i := 9) _ HB4.out
          · rw [e2]; exact Lib.hid (HR4.out.kept (Chg.setCell (S := fun k => k = w2.heap.size) (p := ⟨w2.heap.size, 9, none⟩) (Chg.refl _ W4) (.inl rfl) _) fun k hk e => by have := HR.out.lt hk; have := HB.out.size; omega)
          · exact Chg.setCell (p := ⟨w2.heap.size, 9, none⟩) (HC4.out.mono fun _ _ z => z.elim) (.inl (.inr rfl)) _
    | true =>
      go_wp2_with fail
      go_meet
      case rel =>
        have e1 : x.answer = an := by rw [← HAN.out, ← HY.out]; unfold landX; simp
        have e2 : St.landD t.disk true x.r = t.disk := by unfold St.landD; simp
        refine ⟨?_, ?_, Lib.hid (Chg.refl _ _)⟩
        · rw [← e1]; exact HBK.out
        · rw [e2]; exact Lib.hid HR3.out
  case rest =>
    obtain ⟨hb5, hR5, hC5⟩ := hcut
    have q4 : wc.cell? ⟨w2.heap.size, 4, none⟩ = some (.int .i64 st) := cell_of hb5 rfl
    have q5 : wc.cell? ⟨w2.heap.size, 5, none⟩ = some (.int .i64 (tr + 1)) := cell_of hb5 rfl
    have q6 : wc.cell? ⟨w2.heap.size, 6, none⟩ = some (.int .i64 x.r.after) := cell_of hb5 rfl
    have q7 : wc.cell? ⟨w2.heap.size, 7, none⟩ = some (.bool x.r.alone) := cell_of hb5 rfl
    have qf : ∀ i, wc.frozen? ⟨w2.heap.size, i, none⟩ = false := fun i => free_of hb5
    have qc4 : wc.cell? ⟨q, 4, none⟩ = some (.int .i64 t.now) := hR5.out.c4
    have HB5 := Lib.hid hb5
    have hql5 := lt_of_heap hR5.out.que
    have hbl5 := lt_of_heap hb5
    have hst2 := hstc
    clear hb5 z1 z2 z3 z4 z5 z6 z7 z9 zf c4 c7 hbl hql3
    go_upto_if 54 with (fail)
    go_cut [8, 9] from 55 to 84 (fun s8 s9 wx => wx.heap[w2.heap.size]? = some (.cells #[.int .i64 y.r.num, .bool y.r.write, .int .i64 y.r.page, .string y.data, .int .i64 y.r.state, .int .i64 y.r.tries, .int .i64 y.r.after, .bool y.r.alone, .bool y.r.inAir, .string y.answer] 191 (0, 0)) ∧ Hid (Chg (fun k => k = w2.heap.size) wc wx))
    case first =>
      rcases hst2 with rfl | rfl
      · cases fault with
        | false =>
          go_wp2_with fail
          go_meet
          case rel =>
            have ey : (#[.int .i64 y.r.num, .bool y.r.write, .int .i64 y.r.page, .string y.data, .int .i64 y.r.state, .int .i64 y.r.tries, .int .i64 y.r.after, .bool y.r.alone, .bool y.r.inAir, .string y.answer] : Array Value) = #[.int .i64 x.r.num, .bool wt, .int .i64 p, .string x.data, .int .i64 2, .int .i64 (tr + 1), .int .i64 x.r.after, .bool x.r.alone, .bool false, .string an] := by
              rw [HAN.out, ← HY.out]
              unfold landX St.landR
              simp [HSTE.out, HTRE.out, HWTE.out, HP.out]
            rw [ey]
            exact ⟨heap_setCell (i := 4) _ HB5.out, Lib.hid (Chg.setCell (S := fun k => k = w2.heap.size) (p := ⟨w2.heap.size, 4, none⟩) (Chg.refl _ wc) (.inl rfl) _)⟩
        | true =>
          by_cases h4 : tr + 1 = 4
          · have h43 : tr = 3 := by omega
            have H43 := Lib.hid h43
            have hd4 : (tr + 1 == 4) = true := by rw [h4]; rfl
            clear h43 h4
            go_wp2_with fail
            go_meet
            case rel =>
              have ey : (#[.int .i64 y.r.num, .bool y.r.write, .int .i64 y.r.page, .string y.data, .int .i64 y.r.state, .int .i64 y.r.tries, .int .i64 y.r.after, .bool y.r.alone, .bool y.r.inAir, .string y.answer] : Array Value) = #[.int .i64 x.r.num, .bool wt, .int .i64 p, .string x.data, .int .i64 3, .int .i64 (tr + 1), .int .i64 x.r.after, .bool x.r.alone, .bool false, .string an] := by
                rw [HAN.out, ← HY.out]
                unfold landX St.landR
                simp [HSTE.out, HTRE.out, HWTE.out, HP.out, H43.out]
              rw [ey]
              exact ⟨heap_setCell (i := 4) _ HB5.out, Lib.hid (Chg.setCell (S := fun k => k = w2.heap.size) (p := ⟨w2.heap.size, 4, none⟩) (Chg.refl _ wc) (.inl rfl) _)⟩
          · obtain ⟨T, hT⟩ : ∃ T : Nat, tr + 1 = T := ⟨(tr + 1).toNat, by omega⟩
            have hT3 : 1 ≤ T ∧ T ≤ 3 := by omega
            have HT := Lib.hid hT
            clear hT
            go_wp2_with fail
            obtain ⟨Wl, hWl⟩ : ∃ Wl, (wc.setCell ⟨w2.heap.size, 4, none⟩ (.int .i64 0)).setCell ⟨w2.heap.size, 7, none⟩ (.bool true) = Wl := ⟨_, rfl⟩
            have hbl7 : Wl.heap[w2.heap.size]? = some (.cells #[.int .i64 x.r.num, .bool wt, .int .i64 p, .string x.data, .int .i64 0, .int .i64 (tr + 1), .int .i64 x.r.after, .bool true, .bool false, .string an] 191 (0, 0)) := by rw [← hWl]; exact heap_setCell (i := 7) _ (heap_setCell (i := 4) _ HB5.out)
            have hcl : Chg (fun k => k = w2.heap.size) wc Wl := by rw [← hWl]; exact Chg.setCell (p := ⟨w2.heap.size, 7, none⟩) (Chg.setCell (S := fun k => k = w2.heap.size) (p := ⟨w2.heap.size, 4, none⟩) (Chg.refl _ wc) (.inl rfl) _) (.inl rfl) _
            have l5 : Wl.cell? ⟨w2.heap.size, 5, none⟩ = some (.int .i64 (tr + 1)) := cell_of hbl7 rfl
            have l6 : Wl.cell? ⟨w2.heap.size, 6, none⟩ = some (.int .i64 x.r.after) := cell_of hbl7 rfl
            have lf : ∀ i, Wl.frozen? ⟨w2.heap.size, i, none⟩ = false := fun i => free_of hbl7
            have l4 : Wl.cell? ⟨q, 4, none⟩ = some (.int .i64 t.now) := (hcl.cell (p := ⟨q, 4, none⟩) hql5 hqne).trans qc4
            rw [HT.out] at l5
            have HBL7 := Lib.hid hbl7
            have HCL := Lib.hid hcl
            rw [hWl]
            clear hWl hbl7 hcl q4 q5 q6 q7 qf qc4
            go_loopg [8, 9] 4 (fun kk s8 s9 wx => ∃ (j : Nat) (v : Int), kk = 5 - j ∧ 1 ≤ j ∧ j ≤ T ∧ s9 = .int .i64 j ∧ s8 = .int .i64 v ∧ ((j = 1 ∧ v = 1) ∨ (j = 2 ∧ v = 2) ∨ (j = 3 ∧ v = 4)) ∧ wx = Wl)
            case atStart => exact ⟨1, 1, by simp, by omega, by omega, rfl, rfl, .inl ⟨rfl, rfl⟩, rfl⟩
            case round =>
              obtain ⟨j, v, rfl, hj1, hjT, rfl, rfl, hjv, rfl⟩ := hrel
              have hv8 : v < 8 := by omega
              have hv0 : 0 ≤ v := by omega
              by_cases hlt : j < T
              · have hltI : (j : Int) < (T : Int) := by omega
                have HJV := Lib.hid hjv
                clear hjv
                go_wp2_with fail
                go_roundg (5 - (j + 1))
                case measure => omega
                case rel => exact ⟨j + 1, 2 * v, by omega, by omega, by omega, by go_num, rfl, by have := HJV.out; omega, rfl⟩
              · have hltI : ¬ (j : Int) < (T : Int) := by omega
                have hvE : v = 2 ^ tr.toNat := by
                  have := HT.out
                  rcases hjv with ⟨h1, h2⟩ | ⟨h1, h2⟩ | ⟨h1, h2⟩
                  · rw [show tr = 0 by omega, h2]; rfl
                  · rw [show tr = 1 by omega, h2]; rfl
                  · rw [show tr = 2 by omega, h2]; rfl
                have hwn : IntKind.i64.wrap (t.now + v) = t.now + v := by rw [IntKind.wrap_i64]; omega
                have HVE := Lib.hid hvE
                have HJV := Lib.hid hjv
                clear hjv hvE
                go_wp2_with fail
                go_meet
                case rel =>
                  have ht3 : ¬ 4 ≤ tr + 1 := by have := HT.out; omega
                  have hmin : min 8 ((2 : Int) ^ tr.toNat) = v := by rw [← HVE.out]; omega
                  have ey : (#[.int .i64 y.r.num, .bool y.r.write, .int .i64 y.r.page, .string y.data, .int .i64 y.r.state, .int .i64 y.r.tries, .int .i64 y.r.after, .bool y.r.alone, .bool y.r.inAir, .string y.answer] : Array Value) = #[.int .i64 x.r.num, .bool wt, .int .i64 p, .string x.data, .int .i64 0, .int .i64 (tr + 1), .int .i64 (t.now + v), .bool true, .bool false, .string an] := by
                    rw [HAN.out, ← HY.out]
                    unfold landX St.landR
                    simp [HSTE.out, HTRE.out, HWTE.out, HP.out, ht3, hmin]
                  rw [ey]
                  exact ⟨heap_setCell (i := 6) _ HBL7.out, Lib.hid (Chg.setCell (p := ⟨w2.heap.size, 6, none⟩) HCL.out (.inl rfl) _)⟩
      · go_wp2_with fail
        go_meet
        case rel =>
          have ey : (#[.int .i64 y.r.num, .bool y.r.write, .int .i64 y.r.page, .string y.data, .int .i64 y.r.state, .int .i64 y.r.tries, .int .i64 y.r.after, .bool y.r.alone, .bool y.r.inAir, .string y.answer] : Array Value) = #[.int .i64 x.r.num, .bool wt, .int .i64 p, .string x.data, .int .i64 4, .int .i64 (tr + 1), .int .i64 x.r.after, .bool x.r.alone, .bool false, .string an] := by
            rw [HAN.out, ← HY.out]
            unfold landX St.landR
            simp [HSTE.out, HTRE.out, HWTE.out, HP.out]
          rw [ey]
          exact ⟨HB5.out, Lib.hid (Chg.refl _ wc)⟩
    case rest =>
      obtain ⟨hb6, hC6⟩ := hcut
      have hR6 := hR5.out.kept hC6.out fun k' hk' e => by have := HR.out.lt hk'; have := HB.out.size; omega
      have HB6 := Lib.hid hb6
      have HR6 := Lib.hid hR6
      have HC65 := Lib.hid (hC5.out.then (hC6.out.mono fun k' _ hk' => .inr hk'))
      clear hb6 hR6 hC6 q4 q5 q6 q7 qf qc4 hstc hst2
      rename World => Wz
      have hR6 := HR6.out
      have hb6 := HB6.out
      have d1 := hR6.c1
      rw [HM.out] at d1
      have y0 : Wz.cell? ⟨w2.heap.size, 0, none⟩ = some (.int .i64 y.r.num) := cell_of hb6 rfl
      have y1 : Wz.cell? ⟨w2.heap.size, 1, none⟩ = some (.bool y.r.write) := cell_of hb6 rfl
      have y2 : Wz.cell? ⟨w2.heap.size, 2, none⟩ = some (.int .i64 y.r.page) := cell_of hb6 rfl
      have y3 : Wz.cell? ⟨w2.heap.size, 3, none⟩ = some (.string y.data) := cell_of hb6 rfl
      have y4 : Wz.cell? ⟨w2.heap.size, 4, none⟩ = some (.int .i64 y.r.state) := cell_of hb6 rfl
      have y5 : Wz.cell? ⟨w2.heap.size, 5, none⟩ = some (.int .i64 y.r.tries) := cell_of hb6 rfl
      have y6 : Wz.cell? ⟨w2.heap.size, 6, none⟩ = some (.int .i64 y.r.after) := cell_of hb6 rfl
      have y7 : Wz.cell? ⟨w2.heap.size, 7, none⟩ = some (.bool y.r.alone) := cell_of hb6 rfl
      have y8 : Wz.cell? ⟨w2.heap.size, 8, none⟩ = some (.bool y.r.inAir) := cell_of hb6 rfl
      have y9 : Wz.cell? ⟨w2.heap.size, 9, none⟩ = some (.string y.answer) := cell_of hb6 rfl
      have hql6 := lt_of_heap hR6.que
      have hbl6 := lt_of_heap hb6
      clear hR6 hb6
      go_upto_region 21 with fail
      go_still_tail 7, (by kernel_rfl)
      change wpList _ _ _ _ _ Wz.drew
      obtain ⟨W8, hW8⟩ : ∃ W8, Wz.drew = W8 := ⟨_, rfl⟩
      have hR8 : RB W8 q { t with disk := St.landD t.disk fault x.r } l told fs (.slice (some ⟨g, 0, none⟩) l.length rc) tv fv dv := by rw [← hW8]; exact HR6.out.kept (Chg.drew (Chg.refl (fun _ => False) Wz)) fun _ _ z => z
      have hc8 : Chg (fun _ => False) Wz W8 := by rw [← hW8]; exact Chg.drew (Chg.refl _ _)
      rw [hW8]
      obtain ⟨g2, cap2, e2, _, ⟨cur, hcur, _⟩, hcell8⟩ := hR8.req HX.out
      simp only [Value.slice.injEq, Option.some.injEq, Addr.mk.injEq] at e2
      obtain ⟨⟨rfl, _⟩, hdrop, rfl⟩ := e2
      clear hdrop
      have v0 : W8.cell? ⟨g, k * 10, none⟩ = some (.int .i64 x.r.num) := hcell8 0 _ rfl
      have v1 : W8.cell? ⟨g, k * 10 + 1, none⟩ = some (.bool x.r.write) := hcell8 1 _ rfl
      have v2 : W8.cell? ⟨g, k * 10 + 2, none⟩ = some (.int .i64 x.r.page) := hcell8 2 _ rfl
      have v3 : W8.cell? ⟨g, k * 10 + 3, none⟩ = some (.string x.data) := hcell8 3 _ rfl
      have v4 : W8.cell? ⟨g, k * 10 + 4, none⟩ = some (.int .i64 x.r.state) := hcell8 4 _ rfl
      have v5 : W8.cell? ⟨g, k * 10 + 5, none⟩ = some (.int .i64 x.r.tries) := hcell8 5 _ rfl
      have v6 : W8.cell? ⟨g, k * 10 + 6, none⟩ = some (.int .i64 x.r.after) := hcell8 6 _ rfl
      have v7 : W8.cell? ⟨g, k * 10 + 7, none⟩ = some (.bool x.r.alone) := hcell8 7 _ rfl
      have v8 : W8.cell? ⟨g, k * 10 + 8, none⟩ = some (.bool x.r.inAir) := hcell8 8 _ rfl
      have v9 : W8.cell? ⟨g, k * 10 + 9, none⟩ = some (.string x.answer) := hcell8 9 _ rfl
      have vf : ∀ i, W8.frozen? ⟨g, i, none⟩ = false := fun i => free_of hcur
      obtain ⟨f1, f2⟩ := hR8.setX (g := g) rfl HX.out y
      have F1 := Lib.hid f1
      have F2 := Lib.hid (((HC65.out.then (hc8.mono fun _ _ z => z.elim)).mono fun _ _ z => Or.inl z).then (f2.mono fun k' _ hk' => Or.inr hk') : Chg (fun k' => (dv.ownBlock = some k' ∨ k' = w2.heap.size) ∨ k' = g) W3 _)
      clear hR8 hcell8 hcur f1 f2 hc8 hW8 y0 y1 y2 y3 y4 y5 y6 y7 y8 y9 d1
      go_upto_region 22 with fail
      obtain ⟨W9, hW9⟩ : ∃ W9, ((((((((((W8.setCell ⟨g, k * 10, none⟩ (.int .i64 y.r.num)).setCell ⟨g, k * 10 + 1, none⟩ (.bool y.r.write)).setCell ⟨g, k * 10 + 2, none⟩ (.int .i64 y.r.page)).setCell ⟨g, k * 10 + 3, none⟩ (.string y.data)).setCell ⟨g, k * 10 + 4, none⟩ (.int .i64 y.r.state)).setCell ⟨g, k * 10 + 5, none⟩ (.int .i64 y.r.tries)).setCell ⟨g, k * 10 + 6, none⟩ (.int .i64 y.r.after)).setCell ⟨g, k * 10 + 7, none⟩ (.bool y.r.alone)).setCell ⟨g, k * 10 + 8, none⟩ (.bool y.r.inAir)).setCell ⟨g, k * 10 + 9, none⟩ (.string y.answer)) = W9 := ⟨_, rfl⟩
      have f1 := F1.out
      have f2 := F2.out
      rw [hW9] at f1 f2
      rw [hW9]
      have hon := HON.out
      have hnum : ∀ b, (t.land b n).depth = t.depth ∧ (t.land b n).cs = t.cs ∧ (t.land b n).head = t.head ∧ (t.land b n).now = t.now ∧ (t.land b n).last = t.last := fun b => ⟨(land_same b n).1, (land_same b n).2.1, (land_same b n).2.2.1, (land_same b n).2.2.2.1, (land_same b n).2.2.2.2.1⟩
      have hdisk : (t.land fault n).disk = St.landD t.disk fault x.r := by rw [← hon]; exact (land_at HS.out (H2.out.at HX.out) fault).2
      have hfoot : ∀ k', k' < w.heap.size → ((dv.ownBlock = some k' ∨ k' = w2.heap.size) ∨ k' = g) → RFoot q (.slice (some ⟨g, 0, none⟩) l.length rc) tv fv dv fs k' := fun k' hk' hh => by
        rcases hh with (e | e) | e
        · exact .inr (.inr (.inr (.inr (.inl e))))
        · have := HB.out.size; omega
        · exact .inr (.inl (by rw [e]; rfl))
      have hch9 : Chg (RFoot q (.slice (some ⟨g, 0, none⟩) l.length rc) tv fv dv fs) w W9 := (chgB HB3.out _).trans (f2.mono fun k' _ hk' => by
        by_cases hk2 : k' < w.heap.size
        · exact .inl (hfoot k' hk2 hk')
        · exact .inr (by omega))
      have HT := Lib.hid (isTold_r n W9 f1 htl)
      have F9 := Lib.hid f1
      have HCH9 := Lib.hid hch9
      have HNUM := Lib.hid hnum
      have HDK := Lib.hid hdisk
      have hxk : x.r.num ∈ told ↔ x.r.told = true := H2.out.told.at HS.out (List.mem_of_getElem? (H2.out.at HX.out))
      rw [hon] at hxk
      have HXK := Lib.hid hxk
      have hairs : x.r.state = 1 ∨ x.r.state = 4 := HST.out
      have HAIRS := Lib.hid hairs
      clear hW9 f1 f2 hon hnum hdisk hfoot hch9 hxk hairs v0 v1 v2 v3 v4 v5 v6 v7 v8 v9 vf
      go_wp2_with fail
      refine HT.out.mono ?_
      rintro yy w10 ⟨rfl, hB10⟩
      have hR10 := F9.out.below hB10
      have hch10 := HCH9.out.of_below hB10
      cases htold : x.r.told with
      | false =>
        rw [decide_eq_false (fun hm => by have := HXK.out.1 hm; rw [htold] at this; cases this)]
        have HTD := Lib.hid htold
        have HR10 := Lib.hid hR10
        have HCH10 := Lib.hid hch10
        clear htold hR10 hch10 hB10
        go_wp2_with fail
        go_end0
        have hrel := rrel_land H2.out HS.out HX.out HAIRS.out fault HTD.out
        rw [HON.out, HY.out] at hrel
        obtain ⟨a1, a2, a3, a4, a5⟩ := HNUM.out fault
        exact ⟨l.set k y, told, _, tv, rfl, HR10.out.st a1 a4 a3 a5 a2 HDK.out, hrel, fun k' hk' => .inl hk', HCH10.out⟩
      | true =>
        rw [decide_eq_true (HXK.out.2 htold)]
        obtain ⟨ta, tc, rfl⟩ := own_slice hR10.tol
        obtain ⟨P, hP⟩ : ∃ P : Int → Bool, (fun m => !(m == n)) = P := ⟨_, rfl⟩
        obtain ⟨m2, hm2⟩ : ∃ m2, told.length = m2 := ⟨_, rfl⟩
        have htl2 : m2 ≤ 1000000 := by omega
        have HTD := Lib.hid htold
        have HR10 := Lib.hid hR10
        have HCH10 := Lib.hid hch10
        have HPP := Lib.hid hP
        have HM2 := Lib.hid hm2
        obtain ⟨i0, hi, hz0, hz1, hz2⟩ := info_parts Tryz.infoI2
        clear htold hR10 hch10 hB10 hP hm2 htl
        go_wp2_with fail
        go_loopg [11, 12] m2 (fun kk out i wx => ∃ j, kk = m2 - j ∧ j ≤ m2 ∧ i = .int .i64 j ∧ wx.ownsRow w10.heap.size 3 1 out ((told.take j).filter P).length (((told.take j).filter P).map fun n => Value.int .i64 n) ∧ Below w10.heap.size w10 wx)
        case atStart => exact ⟨0, by simp, by omega, rfl, by simpa using World.ownsRow_nil _ _ _ _, Below.refl _ _⟩
        case round =>
          obtain ⟨j, rfl, hj, rfl, hrow, hBj⟩ := hrel
          have hRj := HR10.out.below hBj
          have d2 := hRj.c2
          rw [HM2.out] at d2
          by_cases hlt : j < m2
          · have hltI : (j : Int) < (m2 : Int) := by omega
            have hj0 : (0 : Int) ≤ (j : Int) := by omega
            obtain ⟨z, hz⟩ : ∃ z, told[j]? = some z := ⟨_, List.getElem?_eq_getElem (by have := HM2.out; omega)⟩
            have hrowt := hRj.tol
            rw [HM2.out] at hrowt
            obtain ⟨gt, rfl, hgl, _, hcz⟩ := row_at hrowt (j := j) (x := .int .i64 z) (by rw [List.getElem?_map, hz]; rfl) (by simp [HM2.out])
            have hPz : P z = !(z == n) := by rw [← HPP.out]
            have hfl : ((told.take j).filter P).length ≤ j := Nat.le_trans (List.length_filter_le _ _) (by rw [List.length_take]; omega)
            have HZ := Lib.hid hz
            have HPZ := Lib.hid hPz
            clear hRj hrowt hz hPz
            by_cases hzn : z = n
            · subst hzn
              have HRW := Lib.hid hrow
              clear hrow
              go_wp2_with fail
              go_roundg (m2 - (j + 1))
              case measure => omega
              case rel => exact ⟨j + 1, rfl, by omega, by go_num, by rw [take_filter_no HZ.out (by rw [HPZ.out]; simp)]; exact HRW.out, hBj⟩
            · obtain ⟨mm, hmm⟩ : ∃ mm, ((told.take j).filter P).length = mm := ⟨_, rfl⟩
              rw [hmm] at hrow hfl
              have HMM := Lib.hid hmm
              have hszj := hBj.size
              clear hmm
              go_wp2_with (at_builtin; refine wpList_append_own _ rfl _ _ 24 rfl w10.heap.size 3 i0 (.int .i64 0) 1 8 Tryz.underlying24 hi hz0 hz1 hz2 rfl (by decide) _ _ _ rfl (hrow.alloc _) ⟨wr.heap.size, 0, none⟩ 1 1 [.int .i64 z] rfl rfl (World.news_of_block (World.alloc_heap_new wr _)) (by simp [Value.oneCell']) ?_ ?_ ?_ ?_)
              · unfold maxLen; omega
              · omega
              · first | omega | (simp; omega)
              intro v' w11 hown' hgrow _
              have hB11 : Below w10.heap.size w10 w11 := (hBj.alloc hBj.size _).grown hgrow (by simp; omega) (fun k ek => (hrow.lt k ek).1)
              have HO := Lib.hid hown'
              clear hown' hgrow hrow
              go_wp2
              go_roundg (m2 - (j + 1))
              case measure => omega
              case rel => exact ⟨j + 1, rfl, by omega, by go_num, by rw [take_filter_yes HZ.out (by rw [HPZ.out]; simp [hzn]), List.length_append, List.map_append, HMM.out]; exact HO.out, hB11⟩
          · obtain rfl : j = m2 := by omega
            have hall : told.take j = told := List.take_of_length_le (by have := HM2.out; omega)
            rw [hall] at hrow
            obtain ⟨oa, oc, rfl⟩ := own_slice hrow
            obtain ⟨Wb, rfl⟩ : ∃ z, z = wr := ⟨_, rfl⟩
            have hf := hRj.free
            obtain ⟨hset, hchs, hfts⟩ := HR10.out.setT (chgB hBj _) (ownsRow_lowS hrow (Nat.zero_le _)) fun k' hk' => .inr (hrow.lt k' hk').1
            have hyk : (l.set k y)[k]? = some y := by
              have := (List.getElem?_eq_some_iff.1 HX.out).1
              rw [List.getElem?_set, if_pos rfl, if_pos this]
            have hya : y.r.inAir = false := by rw [← HY.out]; exact (landR_num t.now t.disk fault x.r).2.2.2.1
            have HD := Lib.hid (drop_out k y _ hset (by rw [List.length_set]; exact hl) hyk hya)
            have HS2 := Lib.hid hset
            have HC2 := Lib.hid hchs
            have HF2 := Lib.hid hfts
            clear hRj hrow hall hset hchs hfts hyk hya
            go_wp2_with fail
            refine HD.out.mono ?_
            rintro yy w12 ⟨rv', rfl, hR12, hF12, hC12⟩
            have HL := Lib.hid (And.intro hR12 (And.intro hF12 hC12))
            clear hR12 hF12 hC12
            go_wp2_with fail
            go_end0
            obtain ⟨hR12, hF12, hC12⟩ := HL.out
            have hrel := rrel_land_told H2.out HS.out HX.out fault HTD.out
            rw [HON.out, HPP.out] at hrel
            obtain ⟨a1, a2, a3, a4, a5⟩ := HNUM.out fault
            rw [erase_setX] at hR12
            refine ⟨l.eraseIdx k, told.filter P, rv', _, rfl, hR12.st a1 a4 a3 a5 a2 HDK.out, hrel, fun k' hk' => ?_, ?_⟩
            · rcases hF12 k' hk' with e | e
              · rcases HF2.out k' e with e | e
                · exact .inl e
                · exact .inr (Nat.le_trans HCH10.out.size e)
              · refine .inr (Nat.le_trans HCH10.out.size (Nat.le_trans HC2.out.size e))
            · refine (HCH10.out.then (HC2.out.mono fun k' _ hk' => hk'.elim (fun e => .inl e) fun e => .inr (.inr (.inl e)))).trans (hC12.mono fun k' _ hk' => ?_)
              rcases HF2.out k' hk' with e | e
              · exact .inl e
              · exact .inr (Nat.le_trans HCH10.out.size e)
end Go.Proofs.YticobikhndlejaaGreatDoor
