/- The document's queue: Step by contract. -/
import Derived.Test.YticobikhndlejaaGreatDoorScY
import Derived.Test.YticobikhndlejaaGreatDoorScO
import Derived.Test.YticobikhndlejaaGreatDoorScZD
import Derived.Test.YticobikhndlejaaGreatDoorScZC
import Derived.Test.YticobikhndlejaaGreatDoorScZ
import Derived.Test.YticobikhndlejaaGreatDoorScU
namespace Go.Proofs.YticobikhndlejaaGreatDoor
open Go.RowKit Go.Shelf Go.Lib

theorem sentL_take {l : List RR} {ns : List Int} {n : Int} {k : Nat} (h : ∀ y ∈ l.take k, y.r.num ≠ n) : ∀ y ∈ (sentL l ns).take k, y.r.num ≠ n := fun y hy => by
  unfold sentL at hy
  rw [← List.map_take] at hy
  obtain ⟨z, hz, rfl⟩ := List.mem_map.1 hy
  have := h z hz
  split
  · exact this
  · exact this
/-- Each number of the next command is that of a request. -/
theorem cmd_at {l : List RR} {told : List Int} {t : St} (h : RRel l told t) (hk : t.Ok) {c : Cmd} (hc : t.cmd = some c) : c.nums.Nodup ∧ c.nums ≠ [] ∧ ∀ n ∈ c.nums, ∃ k x, l[k]? = some x ∧ x.r.num = n ∧ ∀ y ∈ l.take k, y.r.num ≠ n := by
  have hs := hk.a.rs.nums
  obtain ⟨_, f, m, hsel, _, hn⟩ := cmd_some hk.a.head hc
  refine ⟨by rw [hn]; exact hsel.nodup hs, by rw [hn]; simp, fun n hm => ?_⟩
  rw [hn] at hm
  obtain ⟨r, hr, rfl⟩ := List.mem_map.1 hm
  have hrm := (mem_readyR (hsel.mem r hr).1).1
  obtain ⟨k, hkk⟩ := List.mem_iff_getElem?.1 hrm
  obtain ⟨x, hx, hxr⟩ := h.back hkk
  refine ⟨k, x, hx, by rw [hxr], fun y hy => ?_⟩
  have hy2 : y.r ∈ t.rs.take k := by
    rw [← h.rs, ← List.map_take]
    exact List.mem_map_of_mem hy
  have := (sorted_take hs hkk).1 y.r hy2
  omega
theorem takeSucc {α : Type} {l : List α} {j : Nat} {a : α} (h : l[j]? = some a) : l.take (j + 1) = l.take j ++ [a] := by
  obtain ⟨hl, e⟩ := List.getElem?_eq_some_iff.1 h
  rw [List.take_succ_eq_append_getElem hl, e]
section
variable {w : World} {q : Nat} {t : St} {G : Nat → Prop}
set_option maxRecDepth 100000 in
theorem step_none_r (h : RT w q t G) (hk : t.Ok) (hsm : t.Small) (hc : t.cmd = none) :
    Calls Tryz.prog 92 #[ptr q] w fun y w' => y = .returned (.tuple #[noCmd, .bool false]) ∧ Below w.heap.size w w' := by
  obtain ⟨l, told, fs, rv, tv, fv, dv, h1, h2, h3⟩ := h
  have hl := h2.tlen hk hsm
  obtain ⟨W0, hW0⟩ : ∃ W0, w.alloc (.cells #[.bool false, .int .i64 0, .int .i64 0, .slice none 0 0] 48) = W0 := ⟨_, rfl⟩
  have hB0 : Below w.heap.size w W0 := by rw [← hW0]; exact (Below.refl _ _).alloc (Nat.le_refl _) _
  have hr0 : W0.heap[w.heap.size]? = some (.cells #[.bool false, .int .i64 0, .int .i64 0, .slice none 0 0] 48 (0, 0)) := by rw [← hW0]; exact World.alloc_heap_new _ _
  have HN := Lib.hid (next_r W0 (h1.below hB0) h2.rs hk (by omega))
  have HW0 := Lib.hid hW0
  have HB0 := Lib.hid hB0
  have HR0 := Lib.hid hr0
  have HC := Lib.hid hc
  clear h1 h2 h3 hk hsm hc hl hW0 hB0 hr0
  go_enter Tryz.func92, Tryz.ntmps92
  go_wp2_with fail
  rw [HW0.out]
  refine HN.out.mono ?_
  rintro y w2 ⟨⟨rfl, _⟩ | ⟨c, v, _, hcc, _⟩, hB⟩
  · have hr2 := (hB.block _ (lt_of_heap HR0.out)).trans HR0.out
    have s0 : w2.cell? ⟨w.heap.size, 0, none⟩ = some (.bool false) := cell_of hr2 rfl
    have s1 : w2.cell? ⟨w.heap.size, 1, none⟩ = some (.int .i64 0) := cell_of hr2 rfl
    have s2 : w2.cell? ⟨w.heap.size, 2, none⟩ = some (.int .i64 0) := cell_of hr2 rfl
    have s3 : w2.cell? ⟨w.heap.size, 3, none⟩ = some (.slice none 0 0) := cell_of hr2 rfl
    have sf : ∀ i, w2.frozen? ⟨w.heap.size, i, none⟩ = false := fun i => free_of hr2
    have hwl := lt_of_heap hr2
    have hne1 : w.heap.size ≠ w2.heap.size := by omega
    have hne2 := hne1.symm
    obtain ⟨e5, hc5⟩ := cmd_set (W := w2) (.bool false) (.int .i64 0) (.int .i64 0) (.slice none 0 0) hr2
    have HE5 := Lib.hid e5
    have HC5 := Lib.hid hc5
    have hbb := HB0.out.trans (hB.mono HB0.out.size)
    have HBB := Lib.hid hbb
    have hsz : ((((w2.setCell ⟨w.heap.size, 0, none⟩ (.bool false)).setCell ⟨w.heap.size, 1, none⟩ (.int .i64 0)).setCell ⟨w.heap.size, 2, none⟩ (.int .i64 0)).setCell ⟨w.heap.size, 3, none⟩ (.slice none 0 0)).heap.size = w2.heap.size := by simp [World.setCell]
    have HSZ := Lib.hid hsz
    clear hr2 hB e5 hc5 hbb hsz
    go_wp2_with fail
    obtain ⟨W5, hW5⟩ : ∃ W5, ((((w2.setCell ⟨w.heap.size, 0, none⟩ (.bool false)).setCell ⟨w.heap.size, 1, none⟩ (.int .i64 0)).setCell ⟨w.heap.size, 2, none⟩ (.int .i64 0)).setCell ⟨w.heap.size, 3, none⟩ (.slice none 0 0)) = W5 := ⟨_, rfl⟩
    have e5 := HE5.out
    have hc5 := HC5.out
    have hsz := HSZ.out
    rw [hW5] at e5 hc5 hsz
    rw [hW5]
    have hb1 := HBB.out.trans (hc5.to_below (fun k hk => Nat.le_of_eq hk.symm) HBB.out.size)
    have e7 := (Below.heap_alloc W5 (.cells #[.bool false, .int .i64 0, .int .i64 0, .slice none 0 0] 48) w.heap.size (by omega)).trans e5
    have hb7 := hb1.alloc hb1.size (.cells #[.bool false, .int .i64 0, .int .i64 0, .slice none 0 0] 48)
    obtain ⟨W7, hW7⟩ : ∃ W7, W5.alloc (.cells #[.bool false, .int .i64 0, .int .i64 0, .slice none 0 0] 48) = W7 := ⟨_, rfl⟩
    rw [hW7] at e7 hb7
    rw [hW7]
    have z0 : W7.cell? ⟨w.heap.size, 0, none⟩ = some (.bool false) := cell_of e7 rfl
    have z1 : W7.cell? ⟨w.heap.size, 1, none⟩ = some (.int .i64 0) := cell_of e7 rfl
    have z2 : W7.cell? ⟨w.heap.size, 2, none⟩ = some (.int .i64 0) := cell_of e7 rfl
    have z3 : W7.cell? ⟨w.heap.size, 3, none⟩ = some (.slice none 0 0) := cell_of e7 rfl
    exact bodyPost_ret (v := .tuple #[noCmd, .bool false]) (by simp [results, Tryz.results92, go_sem, z0, z1, z2, z3]) rfl ⟨rfl, hb7⟩
  · rw [HC.out] at hcc; cases hcc
set_option maxRecDepth 100000 in
set_option maxHeartbeats 4000000 in
theorem step_some_r (h : RT w q t G) (hk : t.Ok) (hsm : t.Small) (c : Cmd) (hc : t.cmd = some c) :
    Calls Tryz.prog 92 #[ptr q] w fun y w' => ∃ v G', y = .returned (.tuple #[.agg #[.bool c.write, .int .i64 c.page, .int .i64 c.count, v], .bool true]) ∧ RT w' q (t.sent c) G' ∧ (∀ k, G' k → G k ∨ w.heap.size ≤ k) ∧ Chg G w w' ∧ w'.ownsRow w.heap.size 3 1 v c.nums.length (c.nums.map fun n => Value.int .i64 n) := by
  obtain ⟨l, told, fs, rv, tv, fv, dv, h1, h2, h3⟩ := h
  have hl := h2.tlen hk hsm
  obtain ⟨hnd, hne, hcat⟩ := cmd_at h2 hk hc
  have hpc := (ok_sent hk hc).cmds c (by show c ∈ t.cs ++ [c]; simp)
  have hcl : t.cs.length < 4 := by
    have := (cmd_some hk.a.head hc).1
    have := hk.a.depth
    omega
  have hfl : fs.length = t.cs.length := by rw [← h1.fcs, List.length_map]
  have hss := rrel_sent h2 c
  obtain ⟨W0, hW0⟩ : ∃ W0, w.alloc (.cells #[.bool false, .int .i64 0, .int .i64 0, .slice none 0 0] 48) = W0 := ⟨_, rfl⟩
  have hB0 : Below w.heap.size w W0 := by rw [← hW0]; exact (Below.refl _ _).alloc (Nat.le_refl _) _
  have hr0 : W0.heap[w.heap.size]? = some (.cells #[.bool false, .int .i64 0, .int .i64 0, .slice none 0 0] 48 (0, 0)) := by rw [← hW0]; exact World.alloc_heap_new _ _
  have HN := Lib.hid (next_r W0 (h1.below hB0) h2.rs hk (by omega))
  have HW0 := Lib.hid hW0
  have HB0 := Lib.hid hB0
  have HR0 := Lib.hid hr0
  have HR := Lib.hid h1
  have HC := Lib.hid hc
  have HND := Lib.hid hnd
  have HCAT := Lib.hid hcat
  have H3 := Lib.hid h3
  have HSS := Lib.hid hss
  obtain ⟨N, hN⟩ : ∃ N, c.nums.length = N := ⟨_, rfl⟩
  obtain ⟨nf, hnf⟩ : ∃ nf, fs.length = nf := ⟨_, rfl⟩
  have hnf4 : nf < 4 := by omega
  have hs := hk.a.rs.nums
  have HS := Lib.hid hs
  have hll : l.length ≤ 1000000 := by omega
  have hpg : c.page + c.count ≤ 16 := hpc.page
  have hN6 : N ≤ 1000000 := by
    have h5 : (c.nums.length : Nat) ≤ (t.rs.map (·.num)).length := len_sub c.nums hnd _ fun a ha => by
      obtain ⟨k, x, hx, hxn, _⟩ := hcat a ha
      have := h2.at hx
      rw [← hxn]
      exact List.mem_map_of_mem (List.mem_of_getElem? this)
    rw [List.length_map, ← h2.len] at h5
    omega
  have HNL := Lib.hid hN
  have HNF := Lib.hid hnf
  have HRS := Lib.hid h2.rs
  clear h1 h2 h3 hk hsm hc hl hW0 hB0 hr0 hnd hne hcat hss hs hfl hcl hN hnf hpc
  go_enter Tryz.func92, Tryz.ntmps92
  go_wp2_with fail
  rw [HW0.out]
  refine HN.out.mono ?_
  rintro y w2 ⟨⟨rfl, hcc⟩ | ⟨c', v, rfl, hcc, hv⟩, hB⟩
  · rw [HC.out] at hcc; cases hcc
  rw [HC.out] at hcc
  obtain rfl := Option.some.inj hcc
  clear hcc
  obtain ⟨va, vc, rfl⟩ := own_slice hv
  rw [HNL.out] at hv ⊢
  have hr2 := (hB.block _ (lt_of_heap HR0.out)).trans HR0.out
  have hB2 := HB0.out.trans (hB.mono HB0.out.size)
  have hwl := lt_of_heap hr2
  have hsz0 : W0.heap.size = w.heap.size + 1 := by rw [← HW0.out]; simp
  obtain ⟨W2, hW2⟩ : ∃ W2, w2.alloc (.cells #[.bool c.write, .int .i64 c.page, .int .i64 c.count, .slice va N vc] 48) = W2 := ⟨_, rfl⟩
  have hcb : W2.heap[w2.heap.size]? = some (.cells #[.bool c.write, .int .i64 c.page, .int .i64 c.count, .slice va N vc] 48 (0, 0)) := by rw [← hW2]; exact World.alloc_heap_new _ _
  have hb2 : Below w2.heap.size w2 W2 := by rw [← hW2]; exact (Below.refl _ _).alloc (Nat.le_refl _) _
  have hBW : Below w.heap.size w W2 := hB2.trans (hb2.mono hB2.size)
  have hrW := (hb2.block _ hwl).trans hr2
  have hvW := ownsRow_chg hv (chgB hb2 fun _ => False) fun _ _ z => z
  have hRW := HR.out.below hBW
  have HW2 := Lib.hid hW2
  have HCB := Lib.hid hcb
  have HBW := Lib.hid hBW
  have HRW := Lib.hid hrW
  have HV := Lib.hid hvW
  have HRB := Lib.hid hRW
  have hcbl := lt_of_heap hcb
  have hnoR : ∀ k, RFoot q rv tv fv dv fs k → k < w.heap.size := fun k hk => HR.out.lt hk
  have HNO := Lib.hid hnoR
  obtain ⟨ra, rc, rfl⟩ := own_slice hRW.reqs
  clear hr2 hB2 hW2 hcb hb2 hBW hrW hvW hRW hv hB hnoR
  go_wp2_with fail
  rw [HW2.out]
  go_loopg [6, 7] N (fun kk i u7 wx => ∃ j, kk = N - j ∧ j ≤ N ∧ i = .int .i64 j ∧ RB wx q t (sentL l (c.nums.take j)) told fs (.slice ra l.length rc) tv fv dv ∧ Chg (fun k => (Value.slice ra l.length rc).ownBlock = some k) W2 wx)
  case atStart => exact ⟨0, by simp, by omega, rfl, by rw [List.take_zero, sentL_nil]; exact HRB.out, Chg.refl _ _⟩
  case round =>
    obtain ⟨j, rfl, hj, rfl, hR, hC⟩ := hrel
    have hrvl : ∀ k, (Value.slice ra l.length rc).ownBlock = some k → k < w.heap.size := fun k hk => HNO.out k (.inr (.inl hk))
    have hcb := (hC.block _ hcbl (fun e => by have := hrvl _ e; have := hwl; omega)).trans HCB.out
    have hvr := ownsRow_chg HV.out hC fun k hk e => by have := (HV.out.lt k hk).1; have := hrvl _ e; omega
    have k1 : wr.cell? ⟨w2.heap.size, 1, none⟩ = some (.int .i64 c.page) := cell_of hcb rfl
    have k2 : wr.cell? ⟨w2.heap.size, 2, none⟩ = some (.int .i64 c.count) := cell_of hcb rfl
    have k0 : wr.cell? ⟨w2.heap.size, 0, none⟩ = some (.bool c.write) := cell_of hcb rfl
    have k3 : wr.cell? ⟨w2.heap.size, 3, none⟩ = some (.slice va N vc) := cell_of hcb rfl
    by_cases hlt : j < N
    · have hltI : (j : Int) < (N : Int) := by omega
      have hj0 : (0 : Int) ≤ (j : Int) := by omega
      have hjl : j < c.nums.length := by rw [HNL.out]; exact hlt
      obtain ⟨n, hn⟩ : ∃ n, c.nums[j] = n := ⟨_, rfl⟩
      have hjn : c.nums[j]? = some n := by rw [List.getElem?_eq_getElem hjl, hn]
      obtain ⟨k, x, hx, hxn, hno⟩ := HCAT.out n (List.mem_of_getElem? hjn)
      have hnot : n ∉ c.nums.take j := fun hm => by
        have hnd := HND.out
        rw [← List.take_append_drop j c.nums, List.drop_eq_getElem_cons hjl, hn, List.nodup_append] at hnd
        exact hnd.2.2 n hm n (by simp) rfl
      have hx' : (sentL l (c.nums.take j))[k]? = some x := by rw [sentL_at hx, if_neg (by rw [hxn]; exact hnot)]
      have hvg : ∃ gv, va = some ⟨gv, 0, none⟩ ∧ wr.cell? ⟨gv, j, none⟩ = some (.int .i64 n) := by
        obtain ⟨gv, rfl, _, _, hcell⟩ := row_at hvr (j := j) (x := .int .i64 n) (by rw [List.getElem?_map, hjn]; rfl) (by rw [List.length_map, HNL.out])
        exact ⟨gv, rfl, hcell⟩
      obtain ⟨gv, rfl, hcv⟩ := hvg
      have HAT := Lib.hid fun W (hW : Below wr.heap.size wr W) => at_r n W (hR.below hW) (by rw [sentL_len]; exact hll) hx' hxn (sentL_take hno)
      obtain ⟨g, cap, e, hgl, hgb, hcell⟩ := hR.req hx'
      simp only [Value.slice.injEq] at e
      obtain ⟨rfl, hdrop, rfl⟩ := e
      clear hdrop
      have hkl : k < l.length := (List.getElem?_eq_some_iff.1 hx).1
      have hklI : (k : Int) < (l.length : Int) := by omega
      have hk0 : (0 : Int) ≤ (k : Int) := by omega
      have hc1 := hR.c1
      have hql := lt_of_heap hR.que
      have hgq : g ≠ q := (hR.ne_rv (g := g) rfl).1
      have hgq2 := hgq.symm
      have HR2 := Lib.hid hR
      have HX := Lib.hid hx'
      have HX0 := Lib.hid hx
      have HXN := Lib.hid hxn
      have HJN := Lib.hid hjn
      have HC2 := Lib.hid hC
      clear hR hC hx' hx hxn hjn hno hnot hn hcell hgb hvr hcb hrvl
      go_wp2_with fail
      refine (HAT.out wr (Below.refl _ _)).mono ?_
      rintro y w5 ⟨rfl, hB5⟩
      have hR5 := HR2.out.below hB5
      obtain ⟨g', cap', e', _, ⟨cur, hcur, _⟩, hcell5⟩ := hR5.req HX.out
      simp only [Value.slice.injEq, Option.some.injEq, Addr.mk.injEq] at e'
      obtain ⟨⟨rfl, _⟩, hdrop, rfl⟩ := e'
      clear hdrop
      have d1 := hR5.c1
      have p4 : w5.cell? ⟨g, k * 10 + 4, none⟩ = some (.int .i64 x.r.state) := hcell5 4 _ rfl
      have p8 : w5.cell? ⟨g, k * 10 + 8, none⟩ = some (.bool x.r.inAir) := hcell5 8 _ rfl
      have pf : ∀ i, w5.frozen? ⟨g, i, none⟩ = false := fun i => free_of hcur
      obtain ⟨f1, f2⟩ := hR5.set1 (g := g) rfl HX.out (y := ⟨{ x.r with state := 1 }, x.data, x.answer⟩) 4 (by omega) (.int .i64 1) rfl
      have hx2 : ((sentL l (c.nums.take j)).set k ⟨{ x.r with state := 1 }, x.data, x.answer⟩)[k]? = some ⟨{ x.r with state := 1 }, x.data, x.answer⟩ := by
        rw [List.getElem?_set, if_pos rfl, if_pos (by rw [sentL_len]; exact hkl)]
      obtain ⟨f3, f4⟩ := f1.set1 (g := g) rfl hx2 (y := sentX x) 8 (by omega) (.bool true) rfl
      rw [List.set_set, sentL_step (by rw [HRS.out]; exact HS.out) HX0.out, HXN.out, ← takeSucc HJN.out] at f3
      have F3 := Lib.hid f3
      have F4 := Lib.hid ((HC2.out.of_below hB5).then ((f2.then f4).mono fun k' _ hk' => by rw [hk']; rfl))
      clear hR5 hcell5 hcur f1 f2 f3 f4 hx2 hB5
      go_wp2_with fail
      go_roundg (N - (j + 1))
      case measure => omega
      case rel => exact ⟨j + 1, rfl, by omega, by go_num, F3.out, F4.out⟩
    · obtain rfl : j = N := by omega
      have htk : c.nums.take j = c.nums := List.take_of_length_le (Nat.le_of_eq HNL.out)
      rw [htk] at hR
      obtain ⟨W4, rfl⟩ : ∃ z, z = wr := ⟨_, rfl⟩
      have hRb := (hC.block _ (Nat.lt_of_lt_of_le hwl (by have := hcbl; omega)) (fun e => by have := hrvl _ e; omega)).trans HRW.out
      obtain ⟨fa, fc, rfl⟩ := own_slice hR.fls.row
      have c3 := hR.c3
      have cf := hR.free
      have hrow4 := hR.fls.row
      have hql := lt_of_heap hR.que
      have hnq : ∀ g, (Value.slice fa fs.length fc).ownBlock = some g → g ≠ q := fun g hg => (hR.ne_fv hg).1
      rw [HNF.out] at c3 hrow4 hnq
      have ag : (Value.slice fa nf fc).ownBlock ≠ some q := fun e => hnq q e rfl
      have HR4 := Lib.hid hR
      have HC4 := Lib.hid hC
      have HCB4 := Lib.hid hcb
      have HRB4 := Lib.hid hRb
      have HV4 := Lib.hid hvr
      have hcbl4 := lt_of_heap hcb
      have hwl4 := lt_of_heap hRb
      have n1 := World.new_ne W4 _ c3
      have n2 := World.new_ne W4 _ k0
      obtain ⟨i4, hi4, hz40, hz41, hz42⟩ := info_parts Tryz.infoC
      clear hR hC hcb hRb hvr hnq htk hrvl hlt
      go_wp2_with fail
      go_region_law
        ((refine step_append_lies _ (by rfl) _ _ _ (by rfl) 0 48 i4 _ 4 48 Tryz.underlying55 hi4 hz40 hz41 hz42 rfl (by omega) (.slice fa nf fc) nf _ (by rfl) ((hrow4.alloc _).drew)
            ⟨W4.heap.size, 0, none⟩ 1 1 [.bool c.write, .int .i64 c.page, .int .i64 c.count, .slice va j vc] (by rfl) (by rfl) (World.news_of_block (cs := #[.bool c.write, .int .i64 c.page, .int .i64 c.count, .slice va j vc]) (t := 48) (fr := (0, 0)) (heap_alloc_new W4 _)) (by simp [Value.oneCell'])
            (by omega) (by unfold maxLen; omega) (by omega) (by omega) (W4.heap.size + 1) (by simp) ?_; intro gg cap2 w5 hown5 hgrow hat hltg
          have z2 := hgrow.cell (a := ⟨q, 3, none⟩) (v := .slice fa nf fc) (by go_keep) (fun h => ag h.symm)
          have z3 := grown_free hgrow (a := ⟨q, 3, none⟩) (v := .slice fa nf fc) (by go_keep) (by simp [*, frozen?_alloc_cells]) (fun h => ag h.symm)))
      all_goals
        have hc5 : Chg (fun k => (Value.slice fa nf fc).ownBlock = some k) W4 w5 := Chg.grown (a := W4) (h := chgB (by go_grown) _) (hg := hgrow) (hr := fun k hk => .inl hk)
        have hfw : ∀ k, (Value.slice fa nf fc).ownBlock = some k → k < w.heap.size := fun k hk => HNO.out k (.inr (.inr (.inr (.inl (by rw [HNF.out]; exact hk)))))
        have hcm : CmdsAt w5 0 (.slice (some ⟨gg, 0, none⟩) (nf + 1) cap2) (fs ++ [(c, .slice va j vc)]) := by
          refine ⟨by rw [List.length_append, List.flatMap_append, HNF.out]; exact hown5, fun x hx => ?_, ?_⟩
          · rcases List.mem_append.1 hx with hx | hx
            · exact ownsRow_chg (HR4.out.fls.rows x hx) hc5 fun k hk e => (HR4.out.ne_cv hx hk).2.2.2.1 (by rw [HNF.out]; exact e)
            · obtain rfl := List.mem_singleton.1 hx
              have h1 := ownsRow_chg HV4.out hc5 fun k hk e => by have := (HV4.out.lt k hk).1; have := hfw k e; omega
              rw [HNL.out]
              exact ownsRow_lowS h1 (Nat.zero_le _)
          · refine List.pairwise_append.2 ⟨HR4.out.fls.apart, List.pairwise_singleton _ _, fun a ha b hb k hk hk2 => ?_⟩
            obtain rfl := List.mem_singleton.1 hb
            have h1 := (HV4.out.lt k hk2).1
            have h2 := HNO.out k (.inr (.inr (.inr (.inr (.inr ⟨a, ha, hk⟩)))))
            omega
        obtain ⟨f1, f2⟩ := HR4.out.setF (W := w5) (v' := .slice (some ⟨gg, 0, none⟩) (nf + 1) cap2) (by rw [HNF.out]; exact hc5) hcm (fun k hk => by
          simp [Value.ownBlock] at hk
          subst hk
          rw [HNF.out]
          exact hat.imp id fun e => by omega) (fun x hx => by
          rcases List.mem_append.1 hx with hx | hx
          · exact .inl hx
          · obtain rfl := List.mem_singleton.1 hx
            refine .inr fun k hk => .inr fun e => ?_
            have h1 := (HV4.out.lt k hk).1
            have h2 := HNO.out k e
            omega) (t' := { t with cs := t.cs ++ [c] }) (by rw [List.map_append, HR.out.fcs]; rfl) rfl rfl rfl rfl rfl
        obtain ⟨W6, hW6⟩ : ∃ W6, w5.setCell ⟨q, 3, none⟩ (.slice (some ⟨gg, 0, none⟩) (nf + 1) cap2) = W6 := ⟨_, rfl⟩
        have hqw : q < w.heap.size := lt_of_heap HR.out.que
        rw [hW6] at f1 f2
        have hno6 : ∀ k, w.heap.size ≤ k → ¬ (k = q ∨ (Value.slice fa fs.length fc).ownBlock = some k) := fun k hk e => by
          rcases e with e | e
          · omega
          · rw [HNF.out] at e; have := hfw k e; omega
        have hcb6 := (f2.block _ hcbl4 (hno6 _ (by omega))).trans HCB4.out
        have hrb6 := (f2.block _ hwl4 (hno6 _ (Nat.le_refl _))).trans HRB4.out
        have e0 : W6.cell? ⟨w2.heap.size, 0, none⟩ = some (.bool c.write) := cell_of hcb6 rfl
        have e1 : W6.cell? ⟨w2.heap.size, 1, none⟩ = some (.int .i64 c.page) := cell_of hcb6 rfl
        have e2 : W6.cell? ⟨w2.heap.size, 2, none⟩ = some (.int .i64 c.count) := cell_of hcb6 rfl
        have e5 := f1.c5
        have ef := f1.free
        have hpn : IntKind.i64.wrap ((c.page : Int) + (c.count : Int)) = (c.page : Int) + (c.count : Int) := by rw [IntKind.wrap_i64]; omega
        have F1 := Lib.hid f1
        have F2 := Lib.hid f2
        have HCB6 := Lib.hid hcb6
        have HRB6 := Lib.hid hrb6
        have HW6 := Lib.hid hW6
        have HNO6 := Lib.hid hno6
        have HC5 := Lib.hid hc5
        clear f1 f2 hcb6 hrb6 hW6 hcm hown5 hgrow hc5 hfw hno6
        go_upto_region 12 with fail
        rw [HW6.out]
        go_upto_region 13 with fail
        obtain ⟨W7, hW7⟩ : ∃ W7, W6.setCell ⟨q, 5, none⟩ (.int .i64 ((c.page : Int) + (c.count : Int))) = W7 := ⟨_, rfl⟩
        have hc7 : Chg (fun k => k = q) W6 W7 := by rw [← hW7]; exact Chg.setCell (S := fun k => k = q) (p := ⟨q, 5, none⟩) (Chg.refl _ W6) (.inl rfl) _
        have hq7 : W7.heap[q]? = some (.cells #[.int .i64 (t.sent c).depth, .slice ra l.length rc, tv, .slice (some ⟨gg, 0, none⟩) (nf + 1) cap2, .int .i64 (t.sent c).now, .int .i64 (t.sent c).head, .int .i64 (t.sent c).last, dv] 119 (0, 0)) := by
          rw [← hW7, show ((t.sent c).head : Int) = (c.page : Int) + (c.count : Int) from by show ((c.page + c.count : Nat) : Int) = _; omega]
          exact heap_setCell (i := 5) _ F1.out.que
        have hR7 : RB W7 q (t.sent c) (sentL l c.nums) told (fs ++ [(c, .slice va j vc)]) (.slice ra l.length rc) tv (.slice (some ⟨gg, 0, none⟩) (nf + 1) cap2) dv := F1.out.que' hc7 hq7 rfl rfl
        have hcb7 := (hc7.block _ (lt_of_heap HCB6.out) (fun e => by omega)).trans HCB6.out
        have hrb7 := (hc7.block _ (lt_of_heap HRB6.out) (fun e => by omega)).trans HRB6.out
        have i0 : W7.cell? ⟨w2.heap.size, 0, none⟩ = some (.bool c.write) := cell_of hcb7 rfl
        have i1 : W7.cell? ⟨w2.heap.size, 1, none⟩ = some (.int .i64 c.page) := cell_of hcb7 rfl
        have i2 : W7.cell? ⟨w2.heap.size, 2, none⟩ = some (.int .i64 c.count) := cell_of hcb7 rfl
        have i3 : W7.cell? ⟨w2.heap.size, 3, none⟩ = some (.slice va j vc) := cell_of hcb7 rfl
        have j0 : W7.cell? ⟨w.heap.size, 0, none⟩ = some (.bool false) := cell_of hrb7 rfl
        have j1 : W7.cell? ⟨w.heap.size, 1, none⟩ = some (.int .i64 0) := cell_of hrb7 rfl
        have j2 : W7.cell? ⟨w.heap.size, 2, none⟩ = some (.int .i64 0) := cell_of hrb7 rfl
        have j3 : W7.cell? ⟨w.heap.size, 3, none⟩ = some (.slice none 0 0) := cell_of hrb7 rfl
        have jf : ∀ i, W7.frozen? ⟨w.heap.size, i, none⟩ = false := fun i => free_of hrb7
        have hne8 : w.heap.size ≠ w2.heap.size := by omega
        obtain ⟨e9, hc9⟩ := cmd_set (W := W7) (.bool c.write) (.int .i64 c.page) (.int .i64 c.count) (.slice va j vc) hrb7
        have hv5 := ownsRow_chg HV4.out HC5.out fun k hk e => by
          have := (HV4.out.lt k hk).1
          have := HNO.out k (.inr (.inr (.inr (.inl (by rw [HNF.out]; exact e)))))
          omega
        have hv6 : W6.ownsRow W0.heap.size 3 1 (.slice va j vc) j (c.nums.map fun n => Value.int .i64 n) := by
          rw [← HW6.out]
          exact ownsRow_chg hv5 (Chg.setCell (S := fun k => k = q) (p := ⟨q, 3, none⟩) (Chg.refl _ w5) (.inl rfl) _) fun k hk e => by have := (HV4.out.lt k hk).1; omega
        have hv8 := ownsRow_chg hv6 hc7 fun k hk e => by have := (HV4.out.lt k hk).1; omega
        have H9 := Lib.hid (And.intro e9 hc9)
        have HR7 := Lib.hid hR7
        have HC7 := Lib.hid hc7
        have HV8 := Lib.hid hv8
        rw [hW7]
        clear e9 hc9 hR7 hc7 hv5 hv6 hv8 hcb7 hrb7 hq7 hW7
        go_wp2_with fail
        obtain ⟨e9, hc9⟩ := H9.out
        obtain ⟨W9, hW9⟩ : ∃ W9, ((((W7.setCell ⟨w.heap.size, 0, none⟩ (.bool c.write)).setCell ⟨w.heap.size, 1, none⟩ (.int .i64 c.page)).setCell ⟨w.heap.size, 2, none⟩ (.int .i64 c.count)).setCell ⟨w.heap.size, 3, none⟩ (.slice va j vc)) = W9 := ⟨_, rfl⟩
        rw [hW9] at e9 hc9
        rw [hW9]
        have z0 : W9.cell? ⟨w.heap.size, 0, none⟩ = some (.bool c.write) := cell_of e9 rfl
        have z1 : W9.cell? ⟨w.heap.size, 1, none⟩ = some (.int .i64 c.page) := cell_of e9 rfl
        have z2 : W9.cell? ⟨w.heap.size, 2, none⟩ = some (.int .i64 c.count) := cell_of e9 rfl
        have z3 : W9.cell? ⟨w.heap.size, 3, none⟩ = some (.slice va j vc) := cell_of e9 rfl
        have hft : ∀ k, RFoot q (.slice ra l.length rc) tv (.slice (some ⟨gg, 0, none⟩) (nf + 1) cap2) dv (fs ++ [(c, .slice va j vc)]) k → (G k ∨ w.heap.size ≤ k) ∧ k ≠ w.heap.size := fun k hk => by
          have old : ∀ k, RFoot q (.slice ra l.length rc) tv (.slice fa fs.length fc) dv fs k → (G k ∨ w.heap.size ≤ k) ∧ k ≠ w.heap.size := fun k hk => ⟨.inl (H3.out k hk), by have := HNO.out k hk; omega⟩
          rcases hk with e | e | e | e | e | ⟨x, hx, e⟩
          · exact old k (.inl e)
          · exact old k (.inr (.inl e))
          · exact old k (.inr (.inr (.inl e)))
          · simp [Value.ownBlock] at e
            subst e
            rcases hat with e | e
            · exact old _ (.inr (.inr (.inr (.inl (by rw [HNF.out]; exact e)))))
            · exact ⟨.inr (by omega), by omega⟩
          · exact old k (.inr (.inr (.inr (.inr (.inl e)))))
          · rcases List.mem_append.1 hx with hx | hx
            · exact old k (.inr (.inr (.inr (.inr (.inr ⟨x, hx, e⟩)))))
            · obtain rfl := List.mem_singleton.1 hx
              have := (HV8.out.lt k e).1
              exact ⟨.inr (by omega), by omega⟩
        have hR9 := HR7.out.kept hc9 fun k hk e => (hft k hk).2 e
        have hv9 : W9.ownsRow w.heap.size 3 1 (.slice va j vc) c.nums.length (c.nums.map fun n => Value.int .i64 n) := by
          rw [HNL.out]
          exact ownsRow_lowS (ownsRow_chg HV8.out hc9 fun k hk e => by have := (HV8.out.lt k hk).1; omega) (by omega)
        have hch : Chg G w W9 := by
          have a1 : Chg G w W4 := (chgB HBW.out G).then (HC4.out.mono fun k _ hk => H3.out k (.inr (.inl hk)))
          have a2 : Chg G w W6 := a1.then (F2.out.mono fun k _ hk => H3.out k (hk.elim (fun e => .inl e) fun e => .inr (.inr (.inr (.inl e)))))
          have a3 : Chg G w W7 := a2.then (HC7.out.mono fun k _ hk => by rw [hk]; exact H3.out q (.inl rfl))
          exact a3.trans (hc9.mono fun k _ hk => .inr (by omega))
        refine bodyPost_ret (v := .tuple #[.agg #[.bool c.write, .int .i64 c.page, .int .i64 c.count, .slice va j vc], .bool true]) (by simp [results, Tryz.results92, go_sem, z0, z1, z2, z3]) rfl
          ⟨_, rfl, fun k => G k ∨ w.heap.size ≤ k, ⟨_, told, _, _, tv, _, dv, hR9, HSS.out, fun k hk => (hft k hk).1⟩, fun k hk => hk, hch, hv9⟩
end
end Go.Proofs.YticobikhndlejaaGreatDoor

/- The law: Step, Waiting, Disk, Tick, Crash on both sides. -/
namespace Go.Proofs.YticobikhndlejaaGreatDoor
open Go.RowKit Go.Shelf Go.Lib

theorem cmdnums_len {t : St} (h : t.Ok) (hs : t.Small) {c : Cmd} (hc : c ∈ t.cs) : c.nums.length ≤ 1000000 := by
  have := cmd_len h hc
  have := hs.last
  omega
/-- What Step says and does, on both sides. -/
theorem step_both (t : St) (hk : t.Ok) (hsm : t.Small) : ∃ (wt ok : Bool) (p c : Int) (ns : List Int) (T : St), ns.length ≤ 1000000 ∧ T.Ok ∧ T.last = t.last ∧ T.now = t.now ∧
    (∀ (w : World) (q : Nat) (F : Nat → Prop), QT w q t F → Calls Tryz.prog 18 #[ptr q] w fun y w' => ∃ v F', y = .returned (.tuple #[.agg #[.bool wt, .int .i64 p, .int .i64 c, v], .bool ok]) ∧ QT w' q T F' ∧ (∀ k, F' k → F k ∨ w.heap.size ≤ k) ∧ (∀ k, v.ownBlock = some k → ¬ F' k) ∧ Chg F w w' ∧ w'.ownsRow w.heap.size 3 1 v ns.length (ns.map fun n => Value.int .i64 n)) ∧
    (∀ (w : World) (q : Nat) (G : Nat → Prop), RT w q t G → Calls Tryz.prog 92 #[ptr q] w fun y w' => ∃ v G', y = .returned (.tuple #[.agg #[.bool wt, .int .i64 p, .int .i64 c, v], .bool ok]) ∧ RT w' q T G' ∧ (∀ k, G' k → G k ∨ w.heap.size ≤ k) ∧ Chg G w w' ∧ w'.ownsRow w.heap.size 3 1 v ns.length (ns.map fun n => Value.int .i64 n)) := by
  cases hc : t.cmd with
  | none =>
    refine ⟨false, false, 0, 0, [], t, by simp, hk, rfl, rfl, fun w q F h => ?_, fun w q G h => ?_⟩
    · exact (step_none_c h hk hc).mono fun x w' ⟨e, hb⟩ => ⟨.slice none 0 0, F, e, h.below hb, fun k hk => .inl hk, (fun k hk => by cases hk), chgB hb _, World.ownsRow_nil _ _ _ _⟩
    · exact (step_none_r h hk hsm hc).mono fun x w' ⟨e, hb⟩ => ⟨.slice none 0 0, G, e, h.below hb, fun k hk => .inl hk, chgB hb _, World.ownsRow_nil _ _ _ _⟩
  | some c =>
    have hT := ok_sent hk hc
    refine ⟨c.write, true, c.page, c.count, c.nums, t.sent c, ?_, hT, rfl, rfl, fun w q F h => step_some_c h hk hsm c hc, fun w q G h => step_some_r h hk hsm c hc⟩
    exact cmdnums_len hT ⟨hsm.last, hsm.now⟩ (c := c) (by show c ∈ t.cs ++ [c]; simp)
theorem wait_len {t : St} (h : t.Ok) (hs : t.Small) : t.waiting.length ≤ 1000000 := by
  have h1 := ok_len h
  have h2 := hs.last
  have h3 : t.waiting.length ≤ t.rs.length := by unfold St.waiting; rw [List.length_map]; exact List.length_filter_le _ _
  omega
/-- The document's Waiting, Disk, Flights, Crash of a queue in state t. -/
theorem waiting_m {w : World} {q : Nat} {t : St} {G : Nat → Prop} (h : RT w q t G) (hk : t.Ok) (hsm : t.Small) :
    Calls Tryz.prog 87 #[ptr q] w fun y w' => ∃ v, y = .returned v ∧ w'.ownsRow w.heap.size 3 1 v t.waiting.length (t.waiting.map fun n => Value.int .i64 n) ∧ Below w.heap.size w w' := by
  obtain ⟨l, told, fs, rv, tv, fv, dv, h1, h2, h3⟩ := h
  have hl := h2.tlen hk hsm
  exact waiting_r w h1 h2.rs (by omega)
theorem disk_m {w : World} {q : Nat} {t : St} {G : Nat → Prop} (h : RT w q t G) (hk : t.Ok) :
    Calls Tryz.prog 91 #[ptr q] w fun y w' => y = .returned (.string (strOfNums t.disk)) ∧ w = w' := by
  obtain ⟨l, told, fs, rv, tv, fv, dv, h1, h2, h3⟩ := h
  exact disk_r w h1 hk.a.dlen
theorem flights_m {w : World} {q : Nat} {t : St} {G : Nat → Prop} (h : RT w q t G) :
    Calls Tryz.prog 84 #[ptr q] w fun y w' => ∃ v fs, y = .returned v ∧ fs.map (·.1) = t.cs ∧ CmdsAt w 0 v fs ∧ (∀ k, v.ownBlock = some k → G k) ∧ (∀ c ∈ fs, ∀ k, c.2.ownBlock = some k → G k) ∧ w = w' := by
  obtain ⟨l, told, fs, rv, tv, fv, dv, h1, h2, h3⟩ := h
  exact (flights_r w h1).mono fun x w' ⟨e, hw⟩ => ⟨fv, fs, e, h1.fcs, h1.fls, fun k hk => h3 k (.inr (.inr (.inr (.inl hk)))), fun c hc k hk => h3 k (.inr (.inr (.inr (.inr (.inr ⟨c, hc, hk⟩))))), hw⟩
theorem now_m {w : World} {q : Nat} {t : St} {G : Nat → Prop} (h : RT w q t G) : w.cell? ⟨q, 4, none⟩ = some (.int .i64 t.now) ∧ (∀ i, w.frozen? ⟨q, i, none⟩ = false) ∧ q < w.heap.size ∧ G q := by
  obtain ⟨l, told, fs, rv, tv, fv, dv, h1, h2, h3⟩ := h
  exact ⟨cell_of h1.que rfl, fun i => free_of h1.que, lt_of_heap h1.que, h3 q (.inl rfl)⟩
/-- The document's tick is a store. -/
theorem tick_m {w : World} {q : Nat} {t : St} {G : Nat → Prop} (h : RT w q t G) : RT (w.setCell ⟨q, 4, none⟩ (.int .i64 (t.now + 1))) q t.tick G ∧ Chg G w (w.setCell ⟨q, 4, none⟩ (.int .i64 (t.now + 1))) := by
  obtain ⟨l, told, fs, rv, tv, fv, dv, h1, h2, h3⟩ := h
  have hs : Chg (fun k => k = q) w (w.setCell ⟨q, 4, none⟩ (.int .i64 (t.now + 1))) := chg_set _
  have hne : ∀ {b : Nat} {ty : TypeId} {sz n : Nat} {v : Value} {xs : List Value}, w.ownsRow b ty sz v n xs → ty ≠ 119 → ∀ k, v.ownBlock = some k → ¬ k = q := fun hr ht k hk e => by
    obtain ⟨cur, hcur⟩ := own_heap hr hk
    rw [e] at hcur
    exact ne_of_heap hcur h1.que (fun z => by injection z with _ z2 _; exact ht z2) rfl
  refine ⟨⟨l, told, fs, rv, tv, fv, dv, ⟨heap_setCell (i := 4) _ h1.que, ownsRow_chg h1.reqs hs (hne h1.reqs (by decide)), ownsRow_chg h1.tol hs (hne h1.tol (by decide)), ⟨ownsRow_chg h1.fls.row hs (hne h1.fls.row (by decide)), fun c hc => ownsRow_chg (h1.fls.rows c hc) hs (hne (h1.fls.rows c hc) (by decide)), h1.fls.apart⟩, h1.fcs, ownsRow_chg h1.dsk hs (hne h1.dsk (by decide)), h1.tf⟩, ⟨h2.rs, h2.ok, h2.told⟩, h3⟩, hs.mono fun k _ hk => hk ▸ h3 q (.inl rfl)⟩
end Go.Proofs.YticobikhndlejaaGreatDoor
