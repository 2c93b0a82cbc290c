/- The document's queue: the next command by contract. -/
import Derived.Test.YticobikhndlejaaGreatDoorScX
import Derived.Deep.Cut
import Derived.Deep.CutRange
namespace Go.Proofs.YticobikhndlejaaGreatDoor
open Go.RowKit Go.Shelf Go.Lib

/-- first, where there is one. -/
theorem first_yes (w : World) {q : Nat} {t : St} {l : List RR} {told : List Int} {fs : List (Cmd × Value)} {rv tv fv dv : Value} (h : RB w q t l told fs rv tv fv dv) (hl : l.map (·.r) = t.rs) (hs : t.rs.Pairwise (·.num < ·.num)) (hlen : l.length ≤ 1000000) (p : Nat) {f : Req} {m : List Req} (hf : t.rs.filter (readyP t.now t.rs p) = f :: m) :
    Calls Tryz.prog 125 #[ptr q, .int .i64 p] w fun y w' => ∃ (k : Nat) (x : RR), y = .returned (.int .i64 k) ∧ l[k]? = some x ∧ x.r = f ∧ Below w.heap.size w w' := by
  refine (first_r w h hl hs hlen p).mono ?_
  rintro y w' ⟨⟨k, r, rfl, hk, m', hm⟩ | ⟨rfl, hn⟩, hB⟩
  · rw [hf, List.cons.injEq] at hm
    rw [← hl, List.getElem?_map] at hk
    obtain ⟨x, h1, h2⟩ := Option.map_eq_some_iff.1 hk
    exact ⟨k, x, rfl, h1, h2.trans hm.1.symm, hB⟩
  · rw [hf] at hn; cases hn
/-- What the pages from p on give, one behind the other. -/
def gI (K : Nat → List Int) (p j : Nat) : List Int := (List.range j).flatMap fun i => K (p + i)
theorem gI_succ (K : Nat → List Int) (p j : Nat) : gI K p (j + 1) = gI K p j ++ K (p + j) := by simp [gI, List.range_succ, List.flatMap_append]
theorem gI_one (K : Nat → List Int) (p : Nat) : gI K p 1 = K p := by simp [gI]
theorem gI_len {K : Nat → List Int} {B : Nat} (hK : ∀ k, (K k).length ≤ B) (p : Nat) : ∀ j, (gI K p j).length ≤ j * B
  | 0 => by simp [gI]
  | j + 1 => by rw [gI_succ, List.length_append, Nat.succ_mul]; exact Nat.add_le_add (gI_len hK p j) (hK _)
theorem gI_gather {K : Nat → List Int} {KR : Nat → List Req} (h : ∀ k, k < 16 → K k = (KR k).map (·.num)) {p : Nat} : ∀ j, p + j ≤ 16 → gI K p j = (gatherR KR p j).map (·.num)
  | 0, _ => by simp [gI, gatherR]
  | j + 1, hj => by rw [gI_succ, gather_succR, List.map_append, gI_gather h j (by omega), h _ (by omega)]
theorem rr_chain {w : World} {b : Nat} {ty : TypeId} {a0 a1 a2 a3 a4 a5 a6 a7 a8 a9 : Value} (v0 v1 v2 v3 v4 v5 v6 v7 v8 v9 : Value) (h : w.heap[b]? = some (.cells #[a0, a1, a2, a3, a4, a5, a6, a7, a8, a9] ty (0, 0))) :
    (((((((((((w.setCell ⟨b, 0, none⟩ v0).setCell ⟨b, 1, none⟩ v1).setCell ⟨b, 2, none⟩ v2).setCell ⟨b, 3, none⟩ v3).setCell ⟨b, 4, none⟩ v4).setCell ⟨b, 5, none⟩ v5).setCell ⟨b, 6, none⟩ v6).setCell ⟨b, 7, none⟩ v7).setCell ⟨b, 8, none⟩ v8).setCell ⟨b, 9, none⟩ v9)).heap[b]? = some (.cells #[v0, v1, v2, v3, v4, v5, v6, v7, v8, v9] ty (0, 0)) := by
  have h0 : (w.setCell ⟨b, 0, none⟩ v0).heap[b]? = some (.cells #[v0, a1, a2, a3, a4, a5, a6, a7, a8, a9] ty (0, 0)) := heap_setCell (i := 0) v0 h
  have h1 : ((w.setCell ⟨b, 0, none⟩ v0).setCell ⟨b, 1, none⟩ v1).heap[b]? = some (.cells #[v0, v1, a2, a3, a4, a5, a6, a7, a8, a9] ty (0, 0)) := heap_setCell (i := 1) v1 h0
  have h2 : (((w.setCell ⟨b, 0, none⟩ v0).setCell ⟨b, 1, none⟩ v1).setCell ⟨b, 2, none⟩ v2).heap[b]? = some (.cells #[v0, v1, v2, a3, a4, a5, a6, a7, a8, a9] ty (0, 0)) := heap_setCell (i := 2) v2 h1
  have h3 : ((((w.setCell ⟨b, 0, none⟩ v0).setCell ⟨b, 1, none⟩ v1).setCell ⟨b, 2, none⟩ v2).setCell ⟨b, 3, none⟩ v3).heap[b]? = some (.cells #[v0, v1, v2, v3, a4, a5, a6, a7, a8, a9] ty (0, 0)) := heap_setCell (i := 3) v3 h2
  have h4 : (((((w.setCell ⟨b, 0, none⟩ v0).setCell ⟨b, 1, none⟩ v1).setCell ⟨b, 2, none⟩ v2).setCell ⟨b, 3, none⟩ v3).setCell ⟨b, 4, none⟩ v4).heap[b]? = some (.cells #[v0, v1, v2, v3, v4, a5, a6, a7, a8, a9] ty (0, 0)) := heap_setCell (i := 4) v4 h3
  have h5 : ((((((w.setCell ⟨b, 0, none⟩ v0).setCell ⟨b, 1, none⟩ v1).setCell ⟨b, 2, none⟩ v2).setCell ⟨b, 3, none⟩ v3).setCell ⟨b, 4, none⟩ v4).setCell ⟨b, 5, none⟩ v5).heap[b]? = some (.cells #[v0, v1, v2, v3, v4, v5, a6, a7, a8, a9] ty (0, 0)) := heap_setCell (i := 5) v5 h4
  have h6 : (((((((w.setCell ⟨b, 0, none⟩ v0).setCell ⟨b, 1, none⟩ v1).setCell ⟨b, 2, none⟩ v2).setCell ⟨b, 3, none⟩ v3).setCell ⟨b, 4, none⟩ v4).setCell ⟨b, 5, none⟩ v5).setCell ⟨b, 6, none⟩ v6).heap[b]? = some (.cells #[v0, v1, v2, v3, v4, v5, v6, a7, a8, a9] ty (0, 0)) := heap_setCell (i := 6) v6 h5
  have h7 : ((((((((w.setCell ⟨b, 0, none⟩ v0).setCell ⟨b, 1, none⟩ v1).setCell ⟨b, 2, none⟩ v2).setCell ⟨b, 3, none⟩ v3).setCell ⟨b, 4, none⟩ v4).setCell ⟨b, 5, none⟩ v5).setCell ⟨b, 6, none⟩ v6).setCell ⟨b, 7, none⟩ v7).heap[b]? = some (.cells #[v0, v1, v2, v3, v4, v5, v6, v7, a8, a9] ty (0, 0)) := heap_setCell (i := 7) v7 h6
  have h8 : (((((((((w.setCell ⟨b, 0, none⟩ v0).setCell ⟨b, 1, none⟩ v1).setCell ⟨b, 2, none⟩ v2).setCell ⟨b, 3, none⟩ v3).setCell ⟨b, 4, none⟩ v4).setCell ⟨b, 5, none⟩ v5).setCell ⟨b, 6, none⟩ v6).setCell ⟨b, 7, none⟩ v7).setCell ⟨b, 8, none⟩ v8).heap[b]? = some (.cells #[v0, v1, v2, v3, v4, v5, v6, v7, v8, a9] ty (0, 0)) := heap_setCell (i := 8) v8 h7
  have h9 : ((((((((((w.setCell ⟨b, 0, none⟩ v0).setCell ⟨b, 1, none⟩ v1).setCell ⟨b, 2, none⟩ v2).setCell ⟨b, 3, none⟩ v3).setCell ⟨b, 4, none⟩ v4).setCell ⟨b, 5, none⟩ v5).setCell ⟨b, 6, none⟩ v6).setCell ⟨b, 7, none⟩ v7).setCell ⟨b, 8, none⟩ v8).setCell ⟨b, 9, none⟩ v9).heap[b]? = some (.cells #[v0, v1, v2, v3, v4, v5, v6, v7, v8, v9] ty (0, 0)) := heap_setCell (i := 9) v9 h8
  exact h9
set_option maxRecDepth 100000 in
set_option maxHeartbeats 4000000 in
/-- The next command. -/
theorem next_r (w : World) {q : Nat} {t : St} {l : List RR} {told : List Int} {fs : List (Cmd × Value)} {rv tv fv dv : Value} (h : RB w q t l told fs rv tv fv dv) (hl : l.map (·.r) = t.rs) (hk : t.Ok) (hlen : l.length ≤ 1000000) :
    Calls Tryz.prog 113 #[ptr q] w fun y w' => ((y = .returned (.tuple #[noCmd, .bool false]) ∧ t.cmd = none) ∨ ∃ c v, y = .returned (.tuple #[.agg #[.bool c.write, .int .i64 c.page, .int .i64 c.count, v], .bool true]) ∧ t.cmd = some c ∧ w'.ownsRow w.heap.size 3 1 v c.nums.length (c.nums.map fun n => Value.int .i64 n)) ∧ Below w.heap.size w w' := by
  have hs := hk.a.rs.nums
  have hh := hk.a.head
  obtain ⟨fa, fc, rfl⟩ := own_slice h.fls.row
  obtain ⟨n, hn⟩ : ∃ n, fs.length = n := ⟨_, rfl⟩
  have hnc : t.cs.length = n := by rw [← h.fcs, List.length_map, hn]
  have hn4 : n ≤ 4 := by have := hk.len; have := hk.a.depth; omega
  rw [hn] at h
  have hql := lt_of_heap h.que
  obtain ⟨W0, hW0⟩ : ∃ W0, w.alloc (.cells #[.bool false, .int .i64 0, .int .i64 0, .slice none 0 0] 48) = W0 := ⟨_, rfl⟩
  have hB0 : Below w.heap.size w W0 := by rw [← hW0]; exact (Below.refl _ _).alloc (Nat.le_refl _) _
  have hr0 : W0.heap[w.heap.size]? = some (.cells #[.bool false, .int .i64 0, .int .i64 0, .slice none 0 0] 48 (0, 0)) := by rw [← hW0]; exact World.alloc_heap_new _ _
  have h0 := h.below hB0
  have c0 := h0.c0
  have c3 := h0.c3
  have rf : ∀ i, W0.frozen? ⟨w.heap.size, i, none⟩ = false := fun i => free_of hr0
  have r0 : W0.cell? ⟨w.heap.size, 0, none⟩ = some (.bool false) := cell_of hr0 rfl
  have r1 : W0.cell? ⟨w.heap.size, 1, none⟩ = some (.int .i64 0) := cell_of hr0 rfl
  have r2 : W0.cell? ⟨w.heap.size, 2, none⟩ = some (.int .i64 0) := cell_of hr0 rfl
  have r3 : W0.cell? ⟨w.heap.size, 3, none⟩ = some (.slice none 0 0) := cell_of hr0 rfl
  have HR := Lib.hid h0
  have HR0 := Lib.hid hr0
  have HB0 := Lib.hid hB0
  have HW0 := Lib.hid hW0
  have HK := Lib.hid hk
  have HS := Lib.hid hs
  have HH := Lib.hid hh
  obtain ⟨d, hd⟩ : ∃ d, t.depth = d := ⟨_, rfl⟩
  rw [hd] at c0
  have HD := Lib.hid hd
  have HNC := Lib.hid hnc
  clear h h0 hr0 hB0 hW0 hk hs hh hd hnc
  -- the end where there is none
  have hnone : ∀ W, Below W0.heap.size W0 W → ∃ W5, (((((W.setCell ⟨w.heap.size, 0, none⟩ (.bool false)).setCell ⟨w.heap.size, 1, none⟩ (.int .i64 0)).setCell ⟨w.heap.size, 2, none⟩ (.int .i64 0)).setCell ⟨w.heap.size, 3, none⟩ (.slice none 0 0)) = W5) ∧ W5.heap[w.heap.size]? = some (.cells #[.bool false, .int .i64 0, .int .i64 0, .slice none 0 0] 48 (0, 0)) ∧ Below w.heap.size w W5 := fun W hW => by
    obtain ⟨e5, hc5⟩ := cmd_set (W := W) (.bool false) (.int .i64 0) (.int .i64 0) (.slice none 0 0) ((hW.block _ (lt_of_heap HR0.out)).trans HR0.out)
    have h1 := HB0.out.trans (hW.mono HB0.out.size)
    exact ⟨_, rfl, e5, h1.trans (hc5.to_below (fun k hk => Nat.le_of_eq hk.symm) h1.size)⟩
  have HNONE := Lib.hid hnone
  clear hnone
  by_cases hfull : d ≤ n
  · have hdc : decide ((n : Int) ≥ (d : Int)) = true := decide_eq_true (by omega)
    have hcn := cmd_full (t := t) (by rw [HD.out, HNC.out]; exact hfull)
    have HCN := Lib.hid hcn
    clear hcn
    go_enter Tryz.func113, Tryz.ntmps113
    go_upto_region 1 with fail
    rw [HW0.out]
    go_quiet (fail)
    go_wp2_with fail
    obtain ⟨W5, e1, e5, hB5⟩ := HNONE.out (W0.drewN nq) (below_drewN (Below.refl _ _) _)
    rw [e1]
    have z0 : W5.cell? ⟨w.heap.size, 0, none⟩ = some (.bool false) := cell_of e5 rfl
    have z1 : W5.cell? ⟨w.heap.size, 1, none⟩ = some (.int .i64 0) := cell_of e5 rfl
    have z2 : W5.cell? ⟨w.heap.size, 2, none⟩ = some (.int .i64 0) := cell_of e5 rfl
    have z3 : W5.cell? ⟨w.heap.size, 3, none⟩ = some (.slice none 0 0) := cell_of e5 rfl
    exact bodyPost_ret (v := .tuple #[noCmd, .bool false]) (by simp [results, Tryz.results113, go_sem, z0, z1, z2, z3]) rfl ⟨.inl ⟨rfl, HCN.out⟩, hB5⟩
  · have hdc : decide ((n : Int) ≥ (d : Int)) = false := decide_eq_false (by omega)
    go_enter Tryz.func113, Tryz.ntmps113
    go_upto_region 1 with fail
    rw [HW0.out]
    go_quiet (fail)
    go_wp2_with fail
    have hB1 : Below W0.heap.size W0 (W0.drewN nq) := below_drewN (Below.refl _ _) _
    obtain ⟨W1, hW1⟩ : ∃ W1, W0.drewN nq = W1 := ⟨_, rfl⟩
    rw [hW1] at hB1 ⊢
    have hR1 := HR.out.below hB1
    have hrd := (hB1.block _ (lt_of_heap HR0.out)).trans HR0.out
    have rf1 : ∀ i, W1.frozen? ⟨w.heap.size, i, none⟩ = false := fun i => free_of hrd
    have HP := Lib.hid (page_r W1 hR1 hl HS.out hlen HH.out)
    have HR1 := Lib.hid hR1
    have HB1 := Lib.hid hB1
    clear hR1 hB1 hW1 hrd c0 c3 r0 r1 r2 r3 rf
    go_wp2_with fail
    refine HP.out.mono ?_
    rintro y W2 ⟨⟨p, rfl, hp16, hbg⟩ | ⟨rfl, hbg⟩, hB2⟩
    · have hB2' := HB1.out.trans (hB2.mono HB1.out.size)
      have hR2 := HR.out.below hB2'
      have hne := (beginE_spec HH.out hbg).2
      obtain ⟨f, m, hfm⟩ : ∃ f m, pageR (readyR t.now t.rs) p = f :: m := by
        unfold neR at hne
        cases hx : pageR (readyR t.now t.rs) p with
        | nil => rw [hx] at hne; simp at hne
        | cons f m => exact ⟨f, m, rfl⟩
      have hpf : t.rs.filter (readyP t.now t.rs p) = f :: m := by rw [← pageR_ready t.now t.rs hp16]; exact hfm
      obtain ⟨k, x, hkx, hxf⟩ : ∃ (k : Nat) (x : RR), l[k]? = some x ∧ x.r = f := by
        have hfm2 : f ∈ t.rs := (List.mem_filter.1 (show f ∈ t.rs.filter (readyP t.now t.rs p) by rw [hpf]; simp)).1
        rw [← hl] at hfm2
        obtain ⟨x, hx, hxf⟩ := List.mem_map.1 hfm2
        obtain ⟨k, hk⟩ := List.mem_iff_getElem?.1 hx
        exact ⟨k, x, hk, hxf⟩
      have hF1 : ∀ W, Below W2.heap.size W2 W → Calls Tryz.prog 125 #[ptr q, .int .i64 p] W fun y w' => y = .returned (.int .i64 k) ∧ Below W.heap.size W w' := fun W hW =>
        (first_yes W (hR2.below hW) hl HS.out hlen p hpf).mono fun y w' ⟨k', x', e1, e2, e3, e4⟩ => by
          have h1 : t.rs[k]? = some f := by rw [← hl, List.getElem?_map, hkx]; simp [hxf]
          have h2 : t.rs[k']? = some f := by rw [← hl, List.getElem?_map, e2]; simp [e3]
          obtain ⟨l1, e5⟩ := List.getElem?_eq_some_iff.1 h1
          obtain ⟨l2, e6⟩ := List.getElem?_eq_some_iff.1 h2
          have hkk : k' = k := by
            have hs2 := HS.out
            rw [List.pairwise_iff_getElem] at hs2
            rcases Nat.lt_trichotomy k' k with hlt | he | hlt
            · have := hs2 k' k l2 l1 hlt; rw [e5, e6] at this; omega
            · exact he
            · have := hs2 k k' l1 l2 hlt; rw [e5, e6] at this; omega
          rw [hkk] at e1
          exact ⟨e1, e4⟩
      have HF := Lib.hid hF1
      obtain ⟨g, cap, e, hgl, hgb, hcell⟩ := hR2.req hkx
      obtain ⟨ra, rc, rfl⟩ := own_slice hR2.reqs
      simp only [Value.slice.injEq] at e
      obtain ⟨rfl, hdrop, rfl⟩ := e
      clear hdrop
      have hkl : k < l.length := (List.getElem?_eq_some_iff.1 hkx).1
      have hklI : (k : Int) < (l.length : Int) := by omega
      have hk0 : (0 : Int) ≤ (k : Int) := by omega
      have p0 : W2.cell? ⟨g, k * 10, none⟩ = some (.int .i64 x.r.num) := hcell 0 _ rfl
      have p1 : W2.cell? ⟨g, k * 10 + 1, none⟩ = some (.bool x.r.write) := hcell 1 _ rfl
      have p2 : W2.cell? ⟨g, k * 10 + 2, none⟩ = some (.int .i64 x.r.page) := hcell 2 _ rfl
      have p3 : W2.cell? ⟨g, k * 10 + 3, none⟩ = some (.string x.data) := hcell 3 _ rfl
      have p4 : W2.cell? ⟨g, k * 10 + 4, none⟩ = some (.int .i64 x.r.state) := hcell 4 _ rfl
      have p5 : W2.cell? ⟨g, k * 10 + 5, none⟩ = some (.int .i64 x.r.tries) := hcell 5 _ rfl
      have p6 : W2.cell? ⟨g, k * 10 + 6, none⟩ = some (.int .i64 x.r.after) := hcell 6 _ rfl
      have p7 : W2.cell? ⟨g, k * 10 + 7, none⟩ = some (.bool x.r.alone) := hcell 7 _ rfl
      have p8 : W2.cell? ⟨g, k * 10 + 8, none⟩ = some (.bool x.r.inAir) := hcell 8 _ rfl
      have p9 : W2.cell? ⟨g, k * 10 + 9, none⟩ = some (.string x.answer) := hcell 9 _ rfl
      have e1 := hR2.c1
      have hql2 := lt_of_heap hR2.que
      have hrd := (hB2'.block _ (lt_of_heap HR0.out)).trans HR0.out
      have hwl2 := lt_of_heap hrd
      have HR2 := Lib.hid hR2
      have HRD := Lib.hid hrd
      have HB2 := Lib.hid (HB0.out.trans (hB2'.mono HB0.out.size))
      have HFM := Lib.hid hfm
      have HBG := Lib.hid hbg
      have hp0 : ¬ (p : Int) < 0 := by omega
      have HKX := Lib.hid hkx
      have HXF0 := Lib.hid hxf
      have hgn1 : g ≠ W2.heap.size := by omega
      have hqn1 : q ≠ W2.heap.size := by omega
      have hgn2 := hgn1.symm
      have hqn2 := hqn1.symm
      clear hB2 hB2' hR2 hne hpf hrd hbg hfm hkx hxf hF1 hcell hgb
      go_upto_region 6 with fail
      go_cut [5] from 24 to 32 (fun s5 wx => ∃ (b5 : Nat) (x : RR), s5 = ptr b5 ∧ W2.heap.size ≤ b5 ∧ x.r = f ∧ wx.heap[b5]? = some (.cells #[.int .i64 x.r.num, .bool x.r.write, .int .i64 x.r.page, .string x.data, .int .i64 x.r.state, .int .i64 x.r.tries, .int .i64 x.r.after, .bool x.r.alone, .bool x.r.inAir, .string x.answer] 191 (0, 0)) ∧ Hid (Below W2.heap.size W2 wx))
      case first =>
        go_region_held3 (fun w' => w'.cell? ⟨q, 1, none⟩ = some (.slice (some ⟨g, 0, none⟩) l.length rc) ∧ w'.cell? ⟨g, k * 10, none⟩ = some (.int .i64 x.r.num) ∧ w'.cell? ⟨g, k * 10 + 1, none⟩ = some (.bool x.r.write) ∧ w'.cell? ⟨g, k * 10 + 2, none⟩ = some (.int .i64 x.r.page) ∧ w'.cell? ⟨g, k * 10 + 3, none⟩ = some (.string x.data) ∧ w'.cell? ⟨g, k * 10 + 4, none⟩ = some (.int .i64 x.r.state) ∧ w'.cell? ⟨g, k * 10 + 5, none⟩ = some (.int .i64 x.r.tries) ∧ w'.cell? ⟨g, k * 10 + 6, none⟩ = some (.int .i64 x.r.after) ∧ w'.cell? ⟨g, k * 10 + 7, none⟩ = some (.bool x.r.alone) ∧ w'.cell? ⟨g, k * 10 + 8, none⟩ = some (.bool x.r.inAir) ∧ w'.cell? ⟨g, k * 10 + 9, none⟩ = some (.string x.answer)) (go_keep)
          (first
            | (go_at_call 125; refine (HF.out _ (by go_grown)).mono ?_; rintro y w3 ⟨rfl, hB3⟩
               have hB4 : Below W2.heap.size W2 w3 := Below.trans (by go_grown) (hB3.mono (by simp))
               have v0 : w3.cell? ⟨g, k * 10, none⟩ = some (.int .i64 x.r.num) := (hB4.cell (p := ⟨g, k * 10, none⟩) hgl).trans p0
               have v1 : w3.cell? ⟨g, k * 10 + 1, none⟩ = some (.bool x.r.write) := (hB4.cell (p := ⟨g, k * 10 + 1, none⟩) hgl).trans p1
               have v2 : w3.cell? ⟨g, k * 10 + 2, none⟩ = some (.int .i64 x.r.page) := (hB4.cell (p := ⟨g, k * 10 + 2, none⟩) hgl).trans p2
               have v3 : w3.cell? ⟨g, k * 10 + 3, none⟩ = some (.string x.data) := (hB4.cell (p := ⟨g, k * 10 + 3, none⟩) hgl).trans p3
               have v4 : w3.cell? ⟨g, k * 10 + 4, none⟩ = some (.int .i64 x.r.state) := (hB4.cell (p := ⟨g, k * 10 + 4, none⟩) hgl).trans p4
               have v5 : w3.cell? ⟨g, k * 10 + 5, none⟩ = some (.int .i64 x.r.tries) := (hB4.cell (p := ⟨g, k * 10 + 5, none⟩) hgl).trans p5
               have v6 : w3.cell? ⟨g, k * 10 + 6, none⟩ = some (.int .i64 x.r.after) := (hB4.cell (p := ⟨g, k * 10 + 6, none⟩) hgl).trans p6
               have v7 : w3.cell? ⟨g, k * 10 + 7, none⟩ = some (.bool x.r.alone) := (hB4.cell (p := ⟨g, k * 10 + 7, none⟩) hgl).trans p7
               have v8 : w3.cell? ⟨g, k * 10 + 8, none⟩ = some (.bool x.r.inAir) := (hB4.cell (p := ⟨g, k * 10 + 8, none⟩) hgl).trans p8
               have v9 : w3.cell? ⟨g, k * 10 + 9, none⟩ = some (.string x.answer) := (hB4.cell (p := ⟨g, k * 10 + 9, none⟩) hgl).trans p9
               have hy1 : w3.cell? ⟨q, 1, none⟩ = some (.slice (some ⟨g, 0, none⟩) l.length rc) := (hB4.cell (p := ⟨q, 1, none⟩) hql2).trans e1
               have hz2 := hB3.size
               try simp at hz2
               have hm1 : q < w3.heap.size := Nat.lt_of_lt_of_le hql2 hB4.size
               have hm3 : q ≠ w3.heap.size := by omega
               have hgl3 : g < w3.heap.size := Nat.lt_of_lt_of_le hgl hB4.size
               have hm4 : g ≠ w3.heap.size := by omega
               have hm5 := hm3.symm
               have hm6 := hm4.symm
               have hm7 : W2.heap.size ≠ q := by omega
               try (have zblk : w3.heap[W2.heap.size]? = some (.cells #[.int .i64 0, .bool false, .int .i64 0, .string ⟨#[]⟩, .int .i64 0, .int .i64 0, .int .i64 0, .bool false, .bool false, .string ⟨#[]⟩] 191 (0, 0)) := ?zval; case zval => ((refine (hB3.block _ (by simp)).trans ?_); exact World.alloc_heap_new _ _))
               try (have zc0 : w3.cell? ⟨W2.heap.size, 0, none⟩ = some (.int .i64 0) := ?zval; case zval => (exact cell_of zblk rfl))
               try (have zc1 : w3.cell? ⟨W2.heap.size, 1, none⟩ = some (.bool false) := ?zval; case zval => (exact cell_of zblk rfl))
               try (have zc2 : w3.cell? ⟨W2.heap.size, 2, none⟩ = some (.int .i64 0) := ?zval; case zval => (exact cell_of zblk rfl))
               try (have zc3 : w3.cell? ⟨W2.heap.size, 3, none⟩ = some (.string ⟨#[]⟩) := ?zval; case zval => (exact cell_of zblk rfl))
               try (have zc4 : w3.cell? ⟨W2.heap.size, 4, none⟩ = some (.int .i64 0) := ?zval; case zval => (exact cell_of zblk rfl))
               try (have zc5 : w3.cell? ⟨W2.heap.size, 5, none⟩ = some (.int .i64 0) := ?zval; case zval => (exact cell_of zblk rfl))
               try (have zc6 : w3.cell? ⟨W2.heap.size, 6, none⟩ = some (.int .i64 0) := ?zval; case zval => (exact cell_of zblk rfl))
               try (have zc7 : w3.cell? ⟨W2.heap.size, 7, none⟩ = some (.bool false) := ?zval; case zval => (exact cell_of zblk rfl))
               try (have zc8 : w3.cell? ⟨W2.heap.size, 8, none⟩ = some (.bool false) := ?zval; case zval => (exact cell_of zblk rfl))
               try (have zc9 : w3.cell? ⟨W2.heap.size, 9, none⟩ = some (.string ⟨#[]⟩) := ?zval; case zval => (exact cell_of zblk rfl))
               try (have zfr : ∀ i, w3.frozen? ⟨W2.heap.size, i, none⟩ = false := ?zval; case zval => (exact fun i => free_of zblk))
               try (have zlt : W2.heap.size < w3.heap.size := ?zval; case zval => (exact lt_of_heap zblk))
               try (have HZ := Lib.hid zblk; clear zblk)
               have HX := Lib.hid (And.intro HXF0.out hB4)
               clear hB4))
        all_goals
          go_wp2_with fail
          go_meet
          case rel =>
            refine ⟨_, x, rfl, ?_, HX.out.1, ?_, ?_⟩
            · omega
            · first
              | with_reducible exact World.alloc_heap_new _ _
              | exact rr_chain _ _ _ _ _ _ _ _ _ _ HZ.out
            · refine Lib.hid (HX.out.2.trans ?_)
              repeat first | with_reducible exact Below.refl _ _ | with_reducible refine Below.alloc ?_ ?_ _ | with_reducible refine Below.setCell ?_ ?_ _
              all_goals (try dsimp only) <;> omega
      case rest =>
        obtain ⟨b5, x, rfl, hb5, hxf, hx5, hBc⟩ := hcut
        have y0 : wc.cell? ⟨b5, 0, none⟩ = some (.int .i64 f.num) := by rw [← hxf]; exact cell_of hx5 rfl
        have y1 : wc.cell? ⟨b5, 1, none⟩ = some (.bool f.write) := by rw [← hxf]; exact cell_of hx5 rfl
        have y7 : wc.cell? ⟨b5, 7, none⟩ = some (.bool f.alone) := by rw [← hxf]; exact cell_of hx5 rfl
        have hl5 := lt_of_heap hx5
        have hrdc := (hBc.out.block _ (lt_of_heap HRD.out)).trans HRD.out
        have hwlc := lt_of_heap hrdc
        have s0 : wc.cell? ⟨w.heap.size, 0, none⟩ = some (.bool false) := cell_of hrdc rfl
        have s1 : wc.cell? ⟨w.heap.size, 1, none⟩ = some (.int .i64 0) := cell_of hrdc rfl
        have s2 : wc.cell? ⟨w.heap.size, 2, none⟩ = some (.int .i64 0) := cell_of hrdc rfl
        have s3 : wc.cell? ⟨w.heap.size, 3, none⟩ = some (.slice none 0 0) := cell_of hrdc rfl
        have sf : ∀ i, wc.frozen? ⟨w.heap.size, i, none⟩ = false := fun i => free_of hrdc
        have hne1 : w.heap.size ≠ wc.heap.size := by omega
        have hne2 : b5 ≠ wc.heap.size := by omega
        have hne3 : w.heap.size ≠ wc.heap.size + 1 := by omega
        have hne4 : b5 ≠ wc.heap.size + 1 := by omega
        have hne5 := hne1.symm
        have hne6 := hne2.symm
        have hne7 := hne3.symm
        have HRDC := Lib.hid hrdc
        have HXF := Lib.hid hxf
        have HX5 := Lib.hid hx5
        clear hrdc hxf hx5
        obtain ⟨fw, hfw⟩ : ∃ fw, f.write = fw := ⟨_, rfl⟩
        obtain ⟨fa2, hfa⟩ : ∃ fa2, f.alone = fa2 := ⟨_, rfl⟩
        rw [hfw] at y1
        rw [hfa] at y7
        have HFW := Lib.hid hfw
        have HFA := Lib.hid hfa
        clear hfw hfa
        have hs5 : ∀ (a b c e : Value), ((((wc.setCell ⟨w.heap.size, 0, none⟩ a).setCell ⟨w.heap.size, 1, none⟩ b).setCell ⟨w.heap.size, 2, none⟩ c).setCell ⟨w.heap.size, 3, none⟩ e).heap.size = wc.heap.size := fun _ _ _ _ => by simp [World.setCell]
        have HS5 := Lib.hid hs5
        have HBC := Lib.hid (HB2.out.trans (hBc.out.mono HB2.out.size))
        clear hs5
        cases fa2 with
        | true =>
          go_wp2_with fail
          obtain ⟨e5, hc5⟩ := cmd_set (W := wc) (.bool fw) (.int .i64 p) (.int .i64 1) (.slice (some ⟨wc.heap.size + 1, 0, none⟩) 1 1) HRDC.out
          have hsz5 := HS5.out (.bool fw) (.int .i64 p) (.int .i64 1) (.slice (some ⟨wc.heap.size + 1, 0, none⟩) 1 1)
          obtain ⟨W5, hW5⟩ : ∃ W5, ((((wc.setCell ⟨w.heap.size, 0, none⟩ (.bool fw)).setCell ⟨w.heap.size, 1, none⟩ (.int .i64 p)).setCell ⟨w.heap.size, 2, none⟩ (.int .i64 1)).setCell ⟨w.heap.size, 3, none⟩ (.slice (some ⟨wc.heap.size + 1, 0, none⟩) 1 1)) = W5 := ⟨_, rfl⟩
          rw [hW5] at e5 hc5 hsz5
          rw [hW5]
          have h1 := ((HBC.out.trans (hc5.to_below (fun k hk => Nat.le_of_eq hk.symm) HBC.out.size)))
          have h2 : Below w.heap.size w (W5.alloc (.cells #[.bool fw, .int .i64 p, .int .i64 1, .slice (some ⟨wc.heap.size + 1, 0, none⟩) 1 1] 48)) := h1.alloc h1.size _
          have h3 := h2.alloc h2.size (.cells #[.int .i64 f.num] 3)
          have e7 := (Below.heap_alloc _ (.cells #[.int .i64 f.num] 3) w.heap.size (by simp; omega)).trans ((Below.heap_alloc W5 (.cells #[.bool fw, .int .i64 p, .int .i64 1, .slice (some ⟨wc.heap.size + 1, 0, none⟩) 1 1] 48) w.heap.size (by omega)).trans e5)
          have hrow := ownsRow_one (w := W5.alloc (.cells #[.bool fw, .int .i64 p, .int .i64 1, .slice (some ⟨wc.heap.size + 1, 0, none⟩) 1 1] 48)) (b := w.heap.size) (v := .int .i64 f.num) 3 (by simp; omega)
          obtain ⟨W7, hW7⟩ : ∃ W7, ((W5.alloc (.cells #[.bool fw, .int .i64 p, .int .i64 1, .slice (some ⟨wc.heap.size + 1, 0, none⟩) 1 1] 48)).alloc (.cells #[.int .i64 f.num] 3)) = W7 := ⟨_, rfl⟩
          rw [hW7] at e7 h3 hrow
          rw [hW7]
          rw [show (W5.alloc (.cells #[.bool fw, .int .i64 p, .int .i64 1, .slice (some ⟨wc.heap.size + 1, 0, none⟩) 1 1] 48)).heap.size = wc.heap.size + 1 from by simp [hsz5]] at hrow
          have z0 : W7.cell? ⟨w.heap.size, 0, none⟩ = some (.bool fw) := cell_of e7 rfl
          have z1 : W7.cell? ⟨w.heap.size, 1, none⟩ = some (.int .i64 p) := cell_of e7 rfl
          have z2 : W7.cell? ⟨w.heap.size, 2, none⟩ = some (.int .i64 1) := cell_of e7 rfl
          have z3 : W7.cell? ⟨w.heap.size, 3, none⟩ = some (.slice (some ⟨wc.heap.size + 1, 0, none⟩) 1 1) := cell_of e7 rfl
          have hcm := cmd_alone (t := t) (by rw [HNC.out, HD.out]; omega) HBG.out HFM.out HFA.out
          rw [HFW.out] at hcm
          exact bodyPost_ret (v := .tuple #[.agg #[.bool fw, .int .i64 p, .int .i64 1, .slice (some ⟨wc.heap.size + 1, 0, none⟩) 1 1], .bool true]) (by simp [results, Tryz.results113, go_sem, z0, z1, z2, z3]) rfl
            ⟨.inr ⟨⟨fw, p, 1, [f.num]⟩, _, rfl, hcm, hrow⟩, h3⟩
        | false =>
          obtain ⟨WA, hWA⟩ : ∃ WA, wc.alloc (.cells #[.bool fw, .int .i64 p, .int .i64 1, .slice none 0 0] 48) = WA := ⟨_, rfl⟩
          have hBA : Below W2.heap.size W2 WA := by rw [← hWA]; exact hBc.out.alloc hBc.out.size _
          have hcA : WA.heap[wc.heap.size]? = some (.cells #[.bool fw, .int .i64 p, .int .i64 1, .slice none 0 0] 48 (0, 0)) := by rw [← hWA]; exact World.alloc_heap_new _ _
          have hxA : WA.heap[b5]? = wc.heap[b5]? := by rw [← hWA]; exact Below.heap_alloc _ _ _ hl5
          have hsA : WA.heap.size = wc.heap.size + 1 := by rw [← hWA]; simp
          have hG := Lib.hid fun W (hW : Below W2.heap.size W2 W) k => group_r W (HR2.out.below hW) hl HS.out hlen k fw
          obtain ⟨K, hK⟩ : ∃ K : Nat → List Int, K = fun k => numsOf (readyK t.now t.rs fw k) t.rs := ⟨_, rfl⟩
          have hKr : ∀ k, k < 16 → K k = (kindR (readyR t.now t.rs) fw k).map (·.num) := fun k hk => by rw [hK, kindR_ready t.now t.rs fw hk]; rfl
          have hKl : ∀ k, (K k).length ≤ 1000000 := fun k => by
            rw [hK]
            show (numsOf (readyK t.now t.rs fw k) t.rs).length ≤ 1000000
            have h1 := numsOf_len (readyK t.now t.rs fw k) t.rs t.rs.length
            rw [List.take_length] at h1
            have h2 : t.rs.length = l.length := by rw [← hl, List.length_map]
            omega
          have HWA := Lib.hid hWA
          have HBA := Lib.hid hBA
          have HCA := Lib.hid hcA
          have HXA := Lib.hid hxA
          have HSA := Lib.hid hsA
          have HK' := Lib.hid hK
          have HKR := Lib.hid hKr
          have HKL := Lib.hid hKl
          clear hWA hBA hcA hxA hsA hK hKr hKl
          go_wp2_with fail
          rw [HWA.out]
          refine (hG.out WA HBA.out p).mono ?_
          rintro y w4 ⟨v, rfl, hv, hB4⟩
          rw [show numsOf (readyK t.now t.rs fw p) t.rs = K p from by rw [HK'.out]] at hv
          obtain ⟨va, vc, rfl⟩ := own_slice hv
          have hcb4 := (hB4.block _ (lt_of_heap HCA.out)).trans HCA.out
          have c3 : w4.cell? ⟨wc.heap.size, 3, none⟩ = some (.slice none 0 0) := cell_of hcb4 rfl
          have cf : w4.frozen? ⟨wc.heap.size, 3, none⟩ = false := free_of hcb4
          have hKp : K p ≠ [] := by
            rw [HKR.out p hp16]
            intro h0
            have hfp : f ∈ pageR (readyR t.now t.rs) p := by rw [HFM.out]; simp
            have : f ∈ kindR (readyR t.now t.rs) fw p := List.mem_filter.2 ⟨hfp, by simp [isKindR, HFW.out, HFA.out]⟩
            rw [List.map_eq_nil_iff] at h0
            rw [h0] at this
            cases this
          obtain ⟨W6, hW6⟩ : ∃ W6, w4.setCell ⟨wc.heap.size, 3, none⟩ (.slice va (K p).length vc) = W6 := ⟨_, rfl⟩
          have hcb6 : W6.heap[wc.heap.size]? = some (.cells #[.bool fw, .int .i64 p, .int .i64 1, .slice va (K p).length vc] 48 (0, 0)) := by rw [← hW6]; exact heap_setCell (i := 3) _ hcb4
          have hC6 : Chg (fun k => k = wc.heap.size) WA W6 := by rw [← hW6]; exact (chgB hB4 (fun k => k = wc.heap.size)).setCell (p := ⟨wc.heap.size, 3, none⟩) (.inl rfl) _
          have hv6 : W6.ownsRow WA.heap.size 3 1 (.slice va (K p).length vc) (gI K p 1).length ((gI K p 1).map fun n => Value.int .i64 n) := by
            rw [gI_one, ← hW6]
            exact ownsRow_setCell_below hv (a := ⟨wc.heap.size, 3, none⟩) (by show wc.heap.size < WA.heap.size; rw [HSA.out]; omega) _
          have HW6 := Lib.hid hW6
          have HB4 := Lib.hid hB4
          have HC6 := Lib.hid hC6
          have HV6 := Lib.hid hv6
          have HCB6 := Lib.hid hcb6
          have HKP := Lib.hid hKp
          obtain ⟨i0, hi, hz0, hz1, hz2⟩ := info_parts Tryz.infoI2
          clear hW6 hB4 hC6 hv6 hcb6 hKp hv hcb4
          go_wp2_with fail
          rw [HW6.out]
          go_loopg [7] 4 (fun kk u7 wx => ∃ (j : Nat) (v : Value), kk = 5 - j ∧ 1 ≤ j ∧ j ≤ 4 ∧ p + j ≤ 16 ∧ wx.heap[wc.heap.size]? = some (.cells #[.bool fw, .int .i64 p, .int .i64 j, v] 48 (0, 0)) ∧ wx.ownsRow WA.heap.size 3 1 v (gI K p j).length ((gI K p j).map fun n => Value.int .i64 n) ∧ Hid (∀ i, i < j → K (p + i) ≠ []) ∧ Hid (Chg (fun k => k = wc.heap.size) WA wx))
          case atStart => exact ⟨1, _, by simp, by omega, by omega, by omega, HCB6.out, HV6.out, Lib.hid (fun i hi => by rw [show p + i = p from by omega]; exact HKP.out), Lib.hid HC6.out⟩
          case round =>
            obtain ⟨j, v, rfl, hj1, hj4, hpj, hcb, hv, hall, hC⟩ := hrel
            obtain ⟨va2, vc2, rfl⟩ := own_slice hv
            have hBr : Below W2.heap.size W2 wr := HBA.out.trans (hC.out.to_below (fun k hk => by have := hBc.out.size; omega) HBA.out.size)
            have hRr : wr.heap[w.heap.size]? = some (.cells #[.bool false, .int .i64 0, .int .i64 0, .slice none 0 0] 48 (0, 0)) := (hBr.block _ (lt_of_heap HRD.out)).trans HRD.out
            have hxr : wr.heap[b5]? = some (.cells #[.int .i64 x.r.num, .bool x.r.write, .int .i64 x.r.page, .string x.data, .int .i64 x.r.state, .int .i64 x.r.tries, .int .i64 x.r.after, .bool x.r.alone, .bool x.r.inAir, .string x.answer] 191 (0, 0)) := (hC.out.block _ (by rw [HSA.out]; omega) hne2).trans (HXA.out.trans HX5.out)
            have x1 : wr.cell? ⟨b5, 1, none⟩ = some (.bool fw) := by rw [← HFW.out, ← HXF.out]; exact cell_of hxr rfl
            have k0 : wr.cell? ⟨wc.heap.size, 0, none⟩ = some (.bool fw) := cell_of hcb rfl
            have k1 : wr.cell? ⟨wc.heap.size, 1, none⟩ = some (.int .i64 p) := cell_of hcb rfl
            have k2 : wr.cell? ⟨wc.heap.size, 2, none⟩ = some (.int .i64 j) := cell_of hcb rfl
            have k3 : wr.cell? ⟨wc.heap.size, 3, none⟩ = some (.slice va2 (gI K p j).length vc2) := cell_of hcb rfl
            have kf : ∀ i, wr.frozen? ⟨wc.heap.size, i, none⟩ = false := fun i => free_of hcb
            have g0 : wr.cell? ⟨w.heap.size, 0, none⟩ = some (.bool false) := cell_of hRr rfl
            have g1 : wr.cell? ⟨w.heap.size, 1, none⟩ = some (.int .i64 0) := cell_of hRr rfl
            have g2 : wr.cell? ⟨w.heap.size, 2, none⟩ = some (.int .i64 0) := cell_of hRr rfl
            have g3 : wr.cell? ⟨w.heap.size, 3, none⟩ = some (.slice none 0 0) := cell_of hRr rfl
            have gf : ∀ i, wr.frozen? ⟨w.heap.size, i, none⟩ = false := fun i => free_of hRr
            have HBR := Lib.hid hBr
            have HRR := Lib.hid hRr
            have HXR := Lib.hid hxr
            have HCB := Lib.hid hcb
            have HV := Lib.hid hv
            clear hBr hRr hxr hcb hv
            -- the end, with j pages
            have hend : ∀ W, Below wr.heap.size wr W → (j = min 4 (16 - p) ∨ K (p + j) = []) → ∃ W5, ((((W.setCell ⟨w.heap.size, 0, none⟩ (.bool fw)).setCell ⟨w.heap.size, 1, none⟩ (.int .i64 p)).setCell ⟨w.heap.size, 2, none⟩ (.int .i64 j)).setCell ⟨w.heap.size, 3, none⟩ (.slice va2 (gI K p j).length vc2)) = W5 ∧
                W5.heap[w.heap.size]? = some (.cells #[.bool fw, .int .i64 p, .int .i64 j, .slice va2 (gI K p j).length vc2] 48 (0, 0)) ∧ Below w.heap.size w W5 ∧ t.cmd = some ⟨fw, p, j, gI K p j⟩ ∧ W5.ownsRow w.heap.size 3 1 (.slice va2 (gI K p j).length vc2) (gI K p j).length ((gI K p j).map fun n => Value.int .i64 n) := fun W hW hst => by
              obtain ⟨e5, hc5⟩ := cmd_set (W := W) (.bool fw) (.int .i64 p) (.int .i64 j) (.slice va2 (gI K p j).length vc2) ((hW.block _ (lt_of_heap HRR.out)).trans HRR.out)
              have hb1 : Below w.heap.size w W := (HB2.out.trans (HBR.out.mono HB2.out.size)).trans (hW.mono (Nat.le_trans HB2.out.size HBR.out.size))
              refine ⟨_, rfl, e5, hb1.trans (hc5.to_below (fun k hk => Nat.le_of_eq hk.symm) hb1.size), ?_, ?_⟩
              · have hnil : ∀ k, k < 16 → (K k = [] ↔ kindR (readyR t.now t.rs) fw k = []) := fun k hk => by rw [HKR.out k hk, List.map_eq_nil_iff]
                have hfin := cmd_group (t := t) (by rw [HNC.out, HD.out]; omega) HBG.out HFM.out HFA.out (j := j) (by omega) (fun i hi h0 => by rw [HFW.out] at h0; exact hall.out i hi ((hnil (p + i) (by omega)).2 h0)) (by omega) (hst.imp id fun h0 => by
                  rw [HFW.out]
                  rcases Nat.lt_or_ge (p + j) 16 with h16 | h16
                  · exact (hnil (p + j) h16).1 h0
                  · refine List.filter_eq_nil_iff.2 fun a ha => ?_
                    have ha2 := List.mem_filter.1 ha
                    exfalso
                    have h1 := (HK.out.a.rs.ok a (mem_readyR ha2.1).1).page
                    have h2 : a.page = ((p + j : Nat) : Int) := by simpa using ha2.2
                    omega)
                rw [HFW.out, ← gI_gather HKR.out j hpj] at hfin
                exact hfin
              · refine ownsRow_chg (ownsRow_chg (ownsRow_low HV.out (by rw [HSA.out]; omega)) (chgB hW fun _ => False) fun _ _ z => z) hc5 fun k hk e => ?_
                have := (HV.out.lt k hk).1
                rw [HSA.out] at this
                omega
            have HEND := Lib.hid hend
            clear hend
            by_cases hgo : j < 4 ∧ p + j < 16
            · obtain ⟨hgo1, hgo2⟩ := hgo
              have a1 : (j : Int) < 4 := by omega
              have a2 : (p : Int) + (j : Int) < 16 := by omega
              have a3 : (0 : Int) ≤ (p : Int) + (j : Int) := by omega
              have HGC := Lib.hid (hG.out wr HBR.out (p + j))
              go_wp2_with fail
              rw [show (p : Int) + (j : Int) = ((p + j : Nat) : Int) from by omega]
              refine HGC.out.mono ?_
              rintro y w5 ⟨lv, rfl, hlv, hB5⟩
              rw [show numsOf (readyK t.now t.rs fw (p + j)) t.rs = K (p + j) from by rw [HK'.out]] at hlv
              obtain ⟨nl, hnl⟩ : ∃ nl, (K (p + j)).length = nl := ⟨_, rfl⟩
              obtain ⟨xl, hxl⟩ : ∃ xl, (K (p + j)).map (fun n => Value.int .i64 n) = xl := ⟨_, rfl⟩
              have hnl6 : nl ≤ 1000000 := hnl ▸ HKL.out (p + j)
              rw [hnl, hxl] at hlv
              have b2 : w5.cell? ⟨wc.heap.size, 2, none⟩ = some (.int .i64 j) := (hB5.cell (p := ⟨wc.heap.size, 2, none⟩) (lt_of_heap HCB.out)).trans k2
              have hcb5 := (hB5.block _ (lt_of_heap HCB.out)).trans HCB.out
              have b0 : w5.cell? ⟨wc.heap.size, 0, none⟩ = some (.bool fw) := cell_of hcb5 rfl
              have b1 : w5.cell? ⟨wc.heap.size, 1, none⟩ = some (.int .i64 p) := cell_of hcb5 rfl
              have b3 : w5.cell? ⟨wc.heap.size, 3, none⟩ = some (.slice va2 (gI K p j).length vc2) := cell_of hcb5 rfl
              have bf : ∀ i, w5.frozen? ⟨wc.heap.size, i, none⟩ = false := fun i => free_of hcb5
              have hR5 := (hB5.block _ (lt_of_heap HRR.out)).trans HRR.out
              have m0 : w5.cell? ⟨w.heap.size, 0, none⟩ = some (.bool false) := cell_of hR5 rfl
              have m1 : w5.cell? ⟨w.heap.size, 1, none⟩ = some (.int .i64 0) := cell_of hR5 rfl
              have m2 : w5.cell? ⟨w.heap.size, 2, none⟩ = some (.int .i64 0) := cell_of hR5 rfl
              have m3 : w5.cell? ⟨w.heap.size, 3, none⟩ = some (.slice none 0 0) := cell_of hR5 rfl
              have mf : ∀ i, w5.frozen? ⟨w.heap.size, i, none⟩ = false := fun i => free_of hR5
              have HNL := Lib.hid hnl
              have HXL := Lib.hid hxl
              have HB5 := Lib.hid hB5
              have HCB5 := Lib.hid hcb5
              clear hnl hxl hR5 hcb5
              rcases hlv.2 with ⟨rfl, hz⟩ | ⟨gl, capl, cur, rfl, hgl1, hgl2, hgl3, hgl4, hgl5, hgl6⟩
              · subst hz
                clear hlv hB5
                go_wp2_with fail
                obtain ⟨W5, e1, e5, hb5', hcm, hrow⟩ := HEND.out _ HB5.out (.inr (List.length_eq_zero_iff.1 HNL.out))
                have z0 : W5.cell? ⟨w.heap.size, 0, none⟩ = some (.bool fw) := cell_of e5 rfl
                have z1 : W5.cell? ⟨w.heap.size, 1, none⟩ = some (.int .i64 p) := cell_of e5 rfl
                have z2 : W5.cell? ⟨w.heap.size, 2, none⟩ = some (.int .i64 j) := cell_of e5 rfl
                have z3 : W5.cell? ⟨w.heap.size, 3, none⟩ = some (.slice va2 (gI K p j).length vc2) := cell_of e5 rfl
                rw [e1]
                exact bodyPost_ret (v := .tuple #[.agg #[.bool fw, .int .i64 p, .int .i64 j, .slice va2 (gI K p j).length vc2], .bool true]) (by simp [results, Tryz.results113, go_sem, z0, z1, z2, z3]) rfl ⟨.inr ⟨⟨fw, p, j, gI K p j⟩, _, rfl, hcm, hrow⟩, hb5'⟩
              · rcases Nat.eq_zero_or_pos nl with hz | hz
                · subst hz
                  clear hlv hB5 hgl1 hgl2 hgl3 hgl4 hgl5 hgl6
                  go_wp2_with fail
                  obtain ⟨W5, e1, e5, hb5', hcm, hrow⟩ := HEND.out _ HB5.out (.inr (List.length_eq_zero_iff.1 HNL.out))
                  have z0 : W5.cell? ⟨w.heap.size, 0, none⟩ = some (.bool fw) := cell_of e5 rfl
                  have z1 : W5.cell? ⟨w.heap.size, 1, none⟩ = some (.int .i64 p) := cell_of e5 rfl
                  have z2 : W5.cell? ⟨w.heap.size, 2, none⟩ = some (.int .i64 j) := cell_of e5 rfl
                  have z3 : W5.cell? ⟨w.heap.size, 3, none⟩ = some (.slice va2 (gI K p j).length vc2) := cell_of e5 rfl
                  rw [e1]
                  exact bodyPost_ret (v := .tuple #[.agg #[.bool fw, .int .i64 p, .int .i64 j, .slice va2 (gI K p j).length vc2], .bool true]) (by simp [results, Tryz.results113, go_sem, z0, z1, z2, z3]) rfl ⟨.inr ⟨⟨fw, p, j, gI K p j⟩, _, rfl, hcm, hrow⟩, hb5'⟩
                · have hzI : ¬ ((nl : Int) = 0) := by omega
                  obtain ⟨no, hno⟩ : ∃ no, (gI K p j).length = no := ⟨_, rfl⟩
                  obtain ⟨xo, hxo⟩ : ∃ xo, (gI K p j).map (fun n => Value.int .i64 n) = xo := ⟨_, rfl⟩
                  have hno6 : no ≤ j * 1000000 := hno ▸ gI_len HKL.out p j
                  have hv5 := ownsRow_chg HV.out (chgB hB5 fun _ => False) fun _ _ z => z
                  rw [hno, hxo] at hv5
                  rw [hno] at b3
                  have hnews : ∀ j u, xl[j]? = some u → w5.cell? ((⟨gl, 0, none⟩ : Addr).add j) = some u := fun j u hu => World.news_of_block hgl2 j u (by
                    rw [← hgl6, List.getElem?_take] at hu
                    split at hu
                    · exact hu
                    · cases hu)
                  have hone : ∀ u ∈ xl, u.oneCell' = true := by
                    rw [← HXL.out]
                    intro u hu
                    obtain ⟨e, _, rfl⟩ := List.mem_map.1 hu
                    rfl
                  have hxll : xl.length = nl * 1 := hlv.1
                  have hsz3 : WA.heap.size ≤ w5.heap.size := Nat.le_trans hC.out.size hB5.size
                  have hcv : (Value.slice va2 no vc2).ownBlock ≠ some wc.heap.size := fun hk => by
                    have := (hv5.lt _ hk).1
                    rw [HSA.out] at this; omega
                  have HNO := Lib.hid hno
                  have HXO := Lib.hid hxo
                  have HNW := Lib.hid hnews
                  have HON := Lib.hid hone
                  have HV5 := Lib.hid hv5
                  have HXLL := Lib.hid hxll
                  clear hnews hone hno hxo hv5 hlv hB5 hgl1 hgl2 hgl3 hgl4 hgl5 hgl6 hxll
                  go_wp2_with (at_builtin; refine wpList_append_own _ rfl _ _ 24 rfl WA.heap.size 3 i0 (.int .i64 0) 1 8 Tryz.underlying24 hi hz0 hz1 hz2 rfl (by decide) _ _ _ rfl HV5.out ⟨gl, 0, none⟩ nl capl xl rfl HXLL.out HNW.out HON.out ?_ ?_ ?_ ?_)
                  · unfold maxLen; omega
                  · omega
                  · exact hsz3
                  intro v' w7 hown' hgrow _
                  obtain ⟨va7, vc7, rfl⟩ := own_slice hown'
                  have hcb7 : w7.heap[wc.heap.size]? = some (.cells #[.bool fw, .int .i64 p, .int .i64 j, .slice va2 (gI K p j).length vc2] 48 (0, 0)) := (hgrow.block _ (lt_of_heap HCB5.out) (fun e => hcv e.symm)).trans HCB5.out
                  have d2 : w7.cell? ⟨wc.heap.size, 2, none⟩ = some (.int .i64 j) := cell_of hcb7 rfl
                  have d3 : w7.cell? ⟨wc.heap.size, 3, none⟩ = some (.slice va2 (gI K p j).length vc2) := cell_of hcb7 rfl
                  have df : ∀ i, w7.frozen? ⟨wc.heap.size, i, none⟩ = false := fun i => free_of hcb7
                  have hC7 : Chg (fun k => k = wc.heap.size) WA w7 := (hC.out.of_below HB5.out).trans ⟨hgrow.os, hgrow.tape, hgrow.output, hgrow.size, fun k hk hn => hgrow.block k hk fun e => hn (.inr (HV5.out.lt k e.symm).1)⟩
                  have hown7 : w7.ownsRow WA.heap.size 3 1 (.slice va7 (no + nl) vc7) (gI K p (j + 1)).length ((gI K p (j + 1)).map fun n => Value.int .i64 n) := by
                    rw [gI_succ, List.length_append, List.map_append, HNO.out, HNL.out, HXO.out, HXL.out]; exact hown'
                  have hlen7 : (gI K p (j + 1)).length = no + nl := by rw [gI_succ, List.length_append, HNO.out, HNL.out]
                  have HCB7 := Lib.hid hcb7
                  have HC7 := Lib.hid hC7
                  have HO7 := Lib.hid hown7
                  clear hown' hgrow hcb7 hC7 hown7 hlen7 b0 b1 b2 b3 bf m0 m1 m2 m3 mf
                  go_wp2_with fail
                  go_roundg (4 - j)
                  case measure => omega
                  case rel => 
                    refine ⟨j + 1, .slice va7 (no + nl) vc7, by omega, by omega, by omega, by omega, ?_, ?_, Lib.hid (fun i hi => ?_), ?_⟩
                    · have := heap_setCell (i := 2) (.int .i64 ((j : Int) + 1)) (heap_setCell (i := 3) (.slice va7 (no + nl) vc7) HCB7.out)
                      rw [show ((j + 1 : Nat) : Int) = (j : Int) + 1 from by omega]
                      exact this
                    · exact ownsRow_setCell_below (ownsRow_setCell_below HO7.out (a := ⟨wc.heap.size, 3, none⟩) (by show wc.heap.size < WA.heap.size; rw [HSA.out]; omega) _) (a := ⟨wc.heap.size, 2, none⟩) (by show wc.heap.size < WA.heap.size; rw [HSA.out]; omega) _
                    · rcases Nat.lt_or_ge i j with h | h
                      · exact hall.out i h
                      · rw [show i = j from by omega]
                        intro h0
                        have := HNL.out
                        rw [h0] at this
                        simp at this; omega
                    · exact Lib.hid ((HC7.out.setCell (p := ⟨wc.heap.size, 3, none⟩) (.inl rfl) _).setCell (p := ⟨wc.heap.size, 2, none⟩) (.inl rfl) _)
            · have hst : j = min 4 (16 - p) := by omega
              have HST := Lib.hid hst
              by_cases hgo1 : j < 4
              · have a1 : (j : Int) < 4 := by omega
                have a2 : ¬ (p : Int) + (j : Int) < 16 := by omega
                clear hgo hst
                go_wp2_with fail
                obtain ⟨W5, e1, e5, hb5', hcm, hrow⟩ := HEND.out _ (Below.refl _ _) (.inl HST.out)
                have z0 : W5.cell? ⟨w.heap.size, 0, none⟩ = some (.bool fw) := cell_of e5 rfl
                have z1 : W5.cell? ⟨w.heap.size, 1, none⟩ = some (.int .i64 p) := cell_of e5 rfl
                have z2 : W5.cell? ⟨w.heap.size, 2, none⟩ = some (.int .i64 j) := cell_of e5 rfl
                have z3 : W5.cell? ⟨w.heap.size, 3, none⟩ = some (.slice va2 (gI K p j).length vc2) := cell_of e5 rfl
                rw [e1]
                exact bodyPost_ret (v := .tuple #[.agg #[.bool fw, .int .i64 p, .int .i64 j, .slice va2 (gI K p j).length vc2], .bool true]) (by simp [results, Tryz.results113, go_sem, z0, z1, z2, z3]) rfl ⟨.inr ⟨⟨fw, p, j, gI K p j⟩, _, rfl, hcm, hrow⟩, hb5'⟩
              · have a1 : ¬ (j : Int) < 4 := by omega
                clear hgo hst
                go_wp2_with fail
                obtain ⟨W5, e1, e5, hb5', hcm, hrow⟩ := HEND.out _ (Below.refl _ _) (.inl HST.out)
                have z0 : W5.cell? ⟨w.heap.size, 0, none⟩ = some (.bool fw) := cell_of e5 rfl
                have z1 : W5.cell? ⟨w.heap.size, 1, none⟩ = some (.int .i64 p) := cell_of e5 rfl
                have z2 : W5.cell? ⟨w.heap.size, 2, none⟩ = some (.int .i64 j) := cell_of e5 rfl
                have z3 : W5.cell? ⟨w.heap.size, 3, none⟩ = some (.slice va2 (gI K p j).length vc2) := cell_of e5 rfl
                rw [e1]
                exact bodyPost_ret (v := .tuple #[.agg #[.bool fw, .int .i64 p, .int .i64 j, .slice va2 (gI K p j).length vc2], .bool true]) (by simp [results, Tryz.results113, go_sem, z0, z1, z2, z3]) rfl ⟨.inr ⟨⟨fw, p, j, gI K p j⟩, _, rfl, hcm, hrow⟩, hb5'⟩
    · have hcn := cmd_idle hbg
      have HCN := Lib.hid hcn
      have hB2' := HB1.out.trans (hB2.mono HB1.out.size)
      obtain ⟨W5, e1, e5, hB5⟩ := HNONE.out W2 hB2'
      have hrd := (hB2'.block _ (lt_of_heap HR0.out)).trans HR0.out
      have s0 : W2.cell? ⟨w.heap.size, 0, none⟩ = some (.bool false) := cell_of hrd rfl
      have s1 : W2.cell? ⟨w.heap.size, 1, none⟩ = some (.int .i64 0) := cell_of hrd rfl
      have s2 : W2.cell? ⟨w.heap.size, 2, none⟩ = some (.int .i64 0) := cell_of hrd rfl
      have s3 : W2.cell? ⟨w.heap.size, 3, none⟩ = some (.slice none 0 0) := cell_of hrd rfl
      have sf : ∀ i, W2.frozen? ⟨w.heap.size, i, none⟩ = false := fun i => free_of hrd
      have HB5 := Lib.hid hB5
      have HE1 := Lib.hid e1
      have HE5 := Lib.hid e5
      clear hcn hbg hB2 hB2' hB5 e1 e5 hrd
      go_wp2_with fail
      rw [HE1.out]
      have z0 : W5.cell? ⟨w.heap.size, 0, none⟩ = some (.bool false) := cell_of HE5.out rfl
      have z1 : W5.cell? ⟨w.heap.size, 1, none⟩ = some (.int .i64 0) := cell_of HE5.out rfl
      have z2 : W5.cell? ⟨w.heap.size, 2, none⟩ = some (.int .i64 0) := cell_of HE5.out rfl
      have z3 : W5.cell? ⟨w.heap.size, 3, none⟩ = some (.slice none 0 0) := cell_of HE5.out rfl
      exact bodyPost_ret (v := .tuple #[noCmd, .bool false]) (by simp [results, Tryz.results113, go_sem, z0, z1, z2, z3]) rfl ⟨.inl ⟨rfl, HCN.out⟩, HB5.out⟩
end Go.Proofs.YticobikhndlejaaGreatDoor
