/- The law's world: bytes, numbers that came out are written into. -/
import Derived.Test.YticobikhndlejaaGreatDoorScZA
namespace Go.Proofs.YticobikhndlejaaGreatDoor
open Go.RowKit Go.Shelf Go.Lib

theorem Tryz.infoSB : (Tryz.prog.info? 41).map (fun i => (i.zero, i.size, i.bytes)) = some (some (.slice none 0 0), 1, 24) := by kernel_rfl
theorem Tryz.infoSI : (Tryz.prog.info? 24).map (fun i => (i.zero, i.size, i.bytes)) = some (some (.slice none 0 0), 1, 24) := by kernel_rfl
theorem fill_row {W : World} {ty : TypeId} {b : Value} {g cap : Nat} {cur' : Array Value} (hm : W.heap[g]? = some (.cells cur' ty (0, 0))) (hs : cur'.size = cap) (hcap : cap ≤ maxLen) (hall : ∀ i, i < cap → cur'[i]? = some b) :
    W.ownsRow 0 ty 1 (.slice (some ⟨g, 0, none⟩) cap cap) cap (List.replicate cap b) := by
  refine ⟨by simp, .inr ⟨g, cap, cur', rfl, Nat.zero_le _, hm, Nat.le_refl _, hcap, by omega, ?_⟩⟩
  apply List.ext_getElem?
  intro i
  rw [List.getElem?_replicate]
  split
  · rename_i hi
    rw [List.getElem?_take_of_lt (by omega), Array.getElem?_toList]
    exact hall i hi
  · rename_i hi
    rw [List.getElem?_eq_none]
    simp
    omega
section
variable {wb w : World} {wl : Nat} {ow : Nat → Lab} {qv bv iv : Value} {ps : List LP} {bs is : List Value}
set_option maxRecDepth 100000 in
set_option maxHeartbeats 2000000 in
theorem mine_l (h : LB wb w wl ow qv bv iv ps bs is) (hb : bs.length ≤ 1000000) {base n : Nat} {v : Value} {xs : List Value} (hr : w.ownsRow base 5 1 v n xs) (hl : ∀ k, v.ownBlock = some k → ow k = .loose) :
    Calls Tryz.prog 82 #[ptr wl, v] w fun y w' => ∃ ow' bv' f, y = .returned (.tuple #[]) ∧ LB wb w' wl ow' qv bv' iv ps (bs ++ [f]) is ∧ (∀ k, k < w.heap.size → v.ownBlock ≠ some k → ow' k = ow k) ∧ Chg (fun k => k = wl ∨ bv.ownBlock = some k ∨ v.ownBlock = some k) w w' := by
  obtain ⟨ba, bc, rfl⟩ := own_slice h.b
  obtain ⟨nb, hnb⟩ : ∃ nb, bs.length = nb := ⟨_, rfl⟩
  obtain ⟨i0, hi, hz0, hz1, hz2⟩ := info_parts Tryz.infoSB
  have hrow := h.b
  have m1 : w.cell? ⟨wl, 1, none⟩ = some (.slice ba bs.length bc) := cell_of h.me rfl
  rw [hnb] at m1 hb hrow
  have hwl := lt_of_heap h.me
  have mf : ∀ i, w.frozen? ⟨wl, i, none⟩ = false := fun i => free_of h.me
  have HL := Lib.hid h
  have HNB := Lib.hid hnb
  have HO := Lib.hid hl
  rcases hr.2 with ⟨rfl, h0⟩ | ⟨g, cap, cur, rfl, hbg, h3, h4, h5, h6, h7⟩
  · clear hr h hnb hl
    go_enter Tryz.func82, Tryz.ntmps82
    go_wp2_with fail
    go_loopg [5] 0 (fun k i wr => i = .int .i64 0 ∧ wr = w)
    case atStart => exact ⟨rfl, rfl⟩
    case round =>
      obtain ⟨rfl, rfl⟩ := hrel
      have hR := HL
      have hrow2 := hrow
      go_wp2_with (at_builtin; refine wpList_append_lies _ rfl _ _ 68 rfl 0 41 i0 (.slice none 0 0) 1 24 Tryz.underlying68 hi hz0 hz1 hz2 rfl (by decide) _ _ _ rfl (hrow2.alloc _) ⟨wr.heap.size, 0, none⟩ 1 1 [.slice none 0 0] rfl rfl (World.news_of_block (World.alloc_heap_new wr _)) (by simp [Value.oneCell']) (by omega) ?_ ?_ ?_ (wr.heap.size + 1) (by simp) ?_)
      · unfold maxLen; omega
      · omega
      · exact Nat.zero_le _
      intro gg vc' w3 hown' hgrow hat _
      have hc3 : Chg (fun k => (Value.slice ba nb bc).ownBlock = some k) wr w3 := ((Chg.refl _ wr).alloc _).grown hgrow fun k hk => .inl hk
      have hnw : (Value.slice ba nb bc).ownBlock ≠ some wl := fun e => by have h1 := hR.out.bo wl (by rw [HNB.out]; exact e); rw [hR.out.own] at h1; cases h1
      have hme3 := (hc3.block _ (lt_of_heap hR.out.me) hnw).trans hR.out.me
      have mf3 : ∀ i, w3.frozen? ⟨wl, i, none⟩ = false := fun i => free_of hme3
      have m3 : w3.cell? ⟨wl, 1, none⟩ = some (.slice ba bs.length bc) := cell_of hme3 rfl
      have HOW := Lib.hid hown'
      have HC3 := Lib.hid hc3
      have HG3 := Lib.hid hgrow
      have HME := Lib.hid hme3
      clear hown' hc3 hgrow hme3 hnw hrow2
      go_wp2_with fail
      go_end0
      have hs : Chg (fun k => k = wl) w3 (w3.setCell ⟨wl, 1, none⟩ (.slice (some ⟨gg, 0, none⟩) (nb + 1) vc')) := chg_set _
      have hbwl : ∀ k, (Value.slice (some ⟨gg, 0, none⟩) (nb + 1) vc').ownBlock = some k → (Value.slice ba nb bc).ownBlock = some k ∨ wr.heap.size ≤ k := fun k hk => by
        simp only [Value.ownBlock, Option.some.injEq] at hk; subst hk; exact hat.imp id fun e => by omega
      have hne : ∀ k, (Value.slice (some ⟨gg, 0, none⟩) (nb + 1) vc').ownBlock = some k → k ≠ wl := fun k hk e => by
        obtain ⟨cur2, hcur⟩ := own_heap HOW.out hk
        rw [e] at hcur
        exact ne_of_heap hcur HME.out (by simp) rfl
      obtain ⟨ow', h8, h9⟩ := hR.out.addB (f := .slice none 0 0) (bv' := .slice (some ⟨gg, 0, none⟩) (nb + 1) vc') (by rw [HNB.out]; exact World.ownsRow_nil _ _ _ _) (fun k hk => by cases hk) (W := w3.setCell ⟨wl, 1, none⟩ (.slice (some ⟨gg, 0, none⟩) (nb + 1) vc')) ((HC3.out.mono fun k _ hk => .inr (by rw [HNB.out]; exact hk)).then (hs.mono fun k _ hk => .inl hk)) (heap_setCell (i := 1) _ HME.out) (by rw [List.length_append, HNB.out]; exact ownsRow_chg HOW.out hs fun k hk e => hne k hk e) fun k hk => by rw [HNB.out]; exact hbwl k hk
      refine ⟨ow', _, _, rfl, h8, fun k hk hv => h9 k (Nat.lt_of_lt_of_le hk (Chg.refl (fun k => (Value.slice none 0 0).ownBlock = some k) wr).size) hv, ?_⟩
      exact (((Chg.refl (fun k => (Value.slice none 0 0).ownBlock = some k) wr).mono fun k _ hk => .inr (.inr hk)).then (HC3.out.mono fun k _ hk => .inr (.inl (by rw [HNB.out]; exact hk)))).then (hs.mono fun k _ hk => .inl hk)
  · have hgl : ow g = .loose := hl g rfl
    have hgw : g ≠ wl := fun e => by rw [e, h.own] at hgl; cases hgl
    clear h hnb hl
    have hcap := h5
    unfold maxLen at hcap
    go_enter Tryz.func82, Tryz.ntmps82
    go_wp2_with fail
    go_loopg [5] cap (fun k i wr => ∃ (j : Nat) (cur' : Array Value), k = cap - j ∧ j ≤ cap ∧ i = .int .i64 j ∧ Hid (Chg (fun k => k = g) w wr ∧ wr.heap[g]? = some (.cells cur' 5 (0, 0)) ∧ cur'.size = cap ∧ ∀ i, i < j → cur'[i]? = some (.int .u8 ((nb % 256 : Nat) : Int))))
    case atStart => exact ⟨0, cur, by simp, by omega, rfl, Lib.hid ⟨Chg.refl _ _, h3, by omega, fun i hi => by omega⟩⟩
    case round =>
      obtain ⟨j, cur', rfl, hj, rfl, hC⟩ := hrel
      obtain ⟨hC1, hC2, hC3, hC4⟩ := hC.out
      have hR := Lib.hid (HL.out.chg hC1 fun k hk => hk ▸ hgl)
      have m2 : wr.cell? ⟨wl, 1, none⟩ = some (.slice ba nb bc) := by rw [← HNB.out]; exact cell_of hR.out.me rfl
      by_cases hlt : j < cap
      · have hltI : (j : Int) < (cap : Int) := by omega
        have hj0 : (0 : Int) ≤ (j : Int) := by omega
        have gf : ∀ i, wr.frozen? ⟨g, i, none⟩ = false := fun i => free_of hC2
        obtain ⟨x0, hx0⟩ : ∃ x, cur'[j]? = some x := ⟨_, Array.getElem?_eq_getElem (by omega)⟩
        have gc : wr.cell? ⟨g, j, none⟩ = some x0 := cell_of hC2 hx0
        obtain ⟨b8, hb8⟩ : ∃ b8, ((nb % 256 : Nat) : Int) = b8 := ⟨_, rfl⟩
        have hmod : IntKind.u8.wrap (nb : Int) = b8 := by rw [IntKind.wrap_u8]; omega
        have HB8 := Lib.hid hb8
        clear hC1 hC2 hC3 hC4 hb8 hx0
        go_wp2_with fail
        go_roundg (cap - (j + 1))
        case measure => omega
        case rel =>
          obtain ⟨hC1, hC2, hC3, hC4⟩ := hC.out
          refine ⟨j + 1, cur'.setIfInBounds j (.int .u8 b8), rfl, by omega, by go_num, Lib.hid ⟨hC1.then (chg_set _), heap_setCell (i := j) _ hC2, by simpa using hC3, fun i hi => ?_⟩⟩
          rw [Array.getElem?_setIfInBounds]
          split
          · rw [if_pos (by omega), HB8.out]
          · exact hC4 i (by omega)
      · obtain rfl : j = cap := by omega
        have hrow2 := hR.out.b
        rw [HNB.out] at hrow2
        have hfr := fill_row hC2 hC3 h5 hC4
        have HFR := Lib.hid hfr
        clear hC1 hC2 hC3 hC4 hfr
        go_wp2_with (at_builtin; refine wpList_append_lies _ rfl _ _ 68 rfl 0 41 i0 (.slice none 0 0) 1 24 Tryz.underlying68 hi hz0 hz1 hz2 rfl (by decide) _ _ _ rfl (hrow2.alloc _) ⟨wr.heap.size, 0, none⟩ 1 1 [.slice (some ⟨g, 0, none⟩) j j] rfl rfl (World.news_of_block (World.alloc_heap_new wr _)) (by simp [Value.oneCell']) (by omega) ?_ ?_ ?_ (wr.heap.size + 1) (by simp) ?_)
        · unfold maxLen; omega
        · omega
        · exact Nat.zero_le _
        intro gg vc' w3 hown' hgrow hat _
        have hc3 : Chg (fun k => (Value.slice ba nb bc).ownBlock = some k) wr w3 := ((Chg.refl _ wr).alloc _).grown hgrow fun k hk => .inl hk
        have hnw : (Value.slice ba nb bc).ownBlock ≠ some wl := fun e => by have h1 := hR.out.bo wl (by rw [HNB.out]; exact e); rw [hR.out.own] at h1; cases h1
        have hme3 := (hc3.block _ (lt_of_heap hR.out.me) hnw).trans hR.out.me
        have mf3 : ∀ i, w3.frozen? ⟨wl, i, none⟩ = false := fun i => free_of hme3
        have m3 : w3.cell? ⟨wl, 1, none⟩ = some (.slice ba bs.length bc) := cell_of hme3 rfl
        have HOW := Lib.hid hown'
        have HC3 := Lib.hid hc3
        have HG3 := Lib.hid hgrow
        have HME := Lib.hid hme3
        clear hown' hc3 hgrow hme3 hnw hrow2
        go_wp2_with fail
        go_end0
        have hs : Chg (fun k => k = wl) w3 (w3.setCell ⟨wl, 1, none⟩ (.slice (some ⟨gg, 0, none⟩) (nb + 1) vc')) := chg_set _
        have hbwl : ∀ k, (Value.slice (some ⟨gg, 0, none⟩) (nb + 1) vc').ownBlock = some k → (Value.slice ba nb bc).ownBlock = some k ∨ wr.heap.size ≤ k := fun k hk => by
          simp only [Value.ownBlock, Option.some.injEq] at hk; subst hk; exact hat.imp id fun e => by omega
        have hne : ∀ k, (Value.slice (some ⟨gg, 0, none⟩) (nb + 1) vc').ownBlock = some k → k ≠ wl := fun k hk e => by
          obtain ⟨cur2, hcur⟩ := own_heap HOW.out hk
          rw [e] at hcur
          exact ne_of_heap hcur HME.out (by simp) rfl
        obtain ⟨ow', h8, h9⟩ := hR.out.addB (f := .slice (some ⟨g, 0, none⟩) j j) (bv' := .slice (some ⟨gg, 0, none⟩) (nb + 1) vc') (by rw [HNB.out]; exact HFR.out) (fun k hk => by cases hk; exact hgl) (W := w3.setCell ⟨wl, 1, none⟩ (.slice (some ⟨gg, 0, none⟩) (nb + 1) vc')) ((HC3.out.mono fun k _ hk => .inr (by rw [HNB.out]; exact hk)).then (hs.mono fun k _ hk => .inl hk)) (heap_setCell (i := 1) _ HME.out) (by rw [List.length_append, HNB.out]; exact ownsRow_chg HOW.out hs fun k hk e => hne k hk e) fun k hk => by rw [HNB.out]; exact hbwl k hk
        refine ⟨ow', _, _, rfl, h8, fun k hk hv => h9 k (Nat.lt_of_lt_of_le hk (hC.out.1.mono fun k _ hk => show (Value.slice (some ⟨g, 0, none⟩) n j).ownBlock = some k by rw [hk]; rfl).size) hv, ?_⟩
        exact (((hC.out.1.mono fun k _ hk => show (Value.slice (some ⟨g, 0, none⟩) n j).ownBlock = some k by rw [hk]; rfl).mono fun k _ hk => .inr (.inr hk)).then (HC3.out.mono fun k _ hk => .inr (.inl (by rw [HNB.out]; exact hk)))).then (hs.mono fun k _ hk => .inl hk)
set_option maxRecDepth 100000 in
set_option maxHeartbeats 2000000 in
theorem owned_l (h : LB wb w wl ow qv bv iv ps bs is) (hb : is.length ≤ 1000000) {base n : Nat} {v : Value} {xs : List Value} (hr : w.ownsRow base 3 1 v n xs) (hl : ∀ k, v.ownBlock = some k → ow k = .loose) :
    Calls Tryz.prog 89 #[ptr wl, v] w fun y w' => ∃ ow' zv' f, y = .returned (.tuple #[]) ∧ LB wb w' wl ow' qv bv zv' ps bs (is ++ [f]) ∧ (∀ k, k < w.heap.size → v.ownBlock ≠ some k → ow' k = ow k) ∧ Chg (fun k => k = wl ∨ iv.ownBlock = some k ∨ v.ownBlock = some k) w w' := by
  obtain ⟨ba, bc, rfl⟩ := own_slice h.i
  obtain ⟨nb, hnb⟩ : ∃ nb, is.length = nb := ⟨_, rfl⟩
  obtain ⟨i0, hi, hz0, hz1, hz2⟩ := info_parts Tryz.infoSI
  have hrow := h.i
  have m1 : w.cell? ⟨wl, 2, none⟩ = some (.slice ba is.length bc) := cell_of h.me rfl
  rw [hnb] at m1 hb hrow
  have hwl := lt_of_heap h.me
  have mf : ∀ i, w.frozen? ⟨wl, i, none⟩ = false := fun i => free_of h.me
  have HL := Lib.hid h
  have HNB := Lib.hid hnb
  have HO := Lib.hid hl
  rcases hr.2 with ⟨rfl, h0⟩ | ⟨g, cap, cur, rfl, hbg, h3, h4, h5, h6, h7⟩
  · clear hr h hnb hl
    go_enter Tryz.func89, Tryz.ntmps89
    go_wp2_with fail
    go_loopg [5] 0 (fun k i wr => i = .int .i64 0 ∧ wr = w)
    case atStart => exact ⟨rfl, rfl⟩
    case round =>
      obtain ⟨rfl, rfl⟩ := hrel
      have hR := HL
      have hrow2 := hrow
      go_wp2_with (at_builtin; refine wpList_append_lies _ rfl _ _ 69 rfl 0 24 i0 (.slice none 0 0) 1 24 Tryz.underlying69 hi hz0 hz1 hz2 rfl (by decide) _ _ _ rfl (hrow2.alloc _) ⟨wr.heap.size, 0, none⟩ 1 1 [.slice none 0 0] rfl rfl (World.news_of_block (World.alloc_heap_new wr _)) (by simp [Value.oneCell']) (by omega) ?_ ?_ ?_ (wr.heap.size + 1) (by simp) ?_)
      · unfold maxLen; omega
      · omega
      · exact Nat.zero_le _
      intro gg vc' w3 hown' hgrow hat _
      have hc3 : Chg (fun k => (Value.slice ba nb bc).ownBlock = some k) wr w3 := ((Chg.refl _ wr).alloc _).grown hgrow fun k hk => .inl hk
      have hnw : (Value.slice ba nb bc).ownBlock ≠ some wl := fun e => by have h1 := hR.out.io wl (by rw [HNB.out]; exact e); rw [hR.out.own] at h1; cases h1
      have hme3 := (hc3.block _ (lt_of_heap hR.out.me) hnw).trans hR.out.me
      have mf3 : ∀ i, w3.frozen? ⟨wl, i, none⟩ = false := fun i => free_of hme3
      have m3 : w3.cell? ⟨wl, 2, none⟩ = some (.slice ba is.length bc) := cell_of hme3 rfl
      have HOW := Lib.hid hown'
      have HC3 := Lib.hid hc3
      have HG3 := Lib.hid hgrow
      have HME := Lib.hid hme3
      clear hown' hc3 hgrow hme3 hnw hrow2
      go_wp2_with fail
      go_end0
      have hs : Chg (fun k => k = wl) w3 (w3.setCell ⟨wl, 2, none⟩ (.slice (some ⟨gg, 0, none⟩) (nb + 1) vc')) := chg_set _
      have hbwl : ∀ k, (Value.slice (some ⟨gg, 0, none⟩) (nb + 1) vc').ownBlock = some k → (Value.slice ba nb bc).ownBlock = some k ∨ wr.heap.size ≤ k := fun k hk => by
        simp only [Value.ownBlock, Option.some.injEq] at hk; subst hk; exact hat.imp id fun e => by omega
      have hne : ∀ k, (Value.slice (some ⟨gg, 0, none⟩) (nb + 1) vc').ownBlock = some k → k ≠ wl := fun k hk e => by
        obtain ⟨cur2, hcur⟩ := own_heap HOW.out hk
        rw [e] at hcur
        exact ne_of_heap hcur HME.out (by simp) rfl
      obtain ⟨ow', h8, h9⟩ := hR.out.addI (f := .slice none 0 0) (zv' := .slice (some ⟨gg, 0, none⟩) (nb + 1) vc') (by rw [HNB.out]; exact World.ownsRow_nil _ _ _ _) (fun k hk => by cases hk) (W := w3.setCell ⟨wl, 2, none⟩ (.slice (some ⟨gg, 0, none⟩) (nb + 1) vc')) ((HC3.out.mono fun k _ hk => .inr (by rw [HNB.out]; exact hk)).then (hs.mono fun k _ hk => .inl hk)) (heap_setCell (i := 2) _ HME.out) (by rw [List.length_append, HNB.out]; exact ownsRow_chg HOW.out hs fun k hk e => hne k hk e) fun k hk => by rw [HNB.out]; exact hbwl k hk
      refine ⟨ow', _, _, rfl, h8, fun k hk hv => h9 k (Nat.lt_of_lt_of_le hk (Chg.refl (fun k => (Value.slice none 0 0).ownBlock = some k) wr).size) hv, ?_⟩
      exact (((Chg.refl (fun k => (Value.slice none 0 0).ownBlock = some k) wr).mono fun k _ hk => .inr (.inr hk)).then (HC3.out.mono fun k _ hk => .inr (.inl (by rw [HNB.out]; exact hk)))).then (hs.mono fun k _ hk => .inl hk)
  · have hgl : ow g = .loose := hl g rfl
    have hgw : g ≠ wl := fun e => by rw [e, h.own] at hgl; cases hgl
    clear h hnb hl
    have hcap := h5
    unfold maxLen at hcap
    go_enter Tryz.func89, Tryz.ntmps89
    go_wp2_with fail
    go_loopg [5] cap (fun k i wr => ∃ (j : Nat) (cur' : Array Value), k = cap - j ∧ j ≤ cap ∧ i = .int .i64 j ∧ Hid (Chg (fun k => k = g) w wr ∧ wr.heap[g]? = some (.cells cur' 3 (0, 0)) ∧ cur'.size = cap ∧ ∀ i, i < j → cur'[i]? = some (.int .i64 (-(nb : Int)))))
    case atStart => exact ⟨0, cur, by simp, by omega, rfl, Lib.hid ⟨Chg.refl _ _, h3, by omega, fun i hi => by omega⟩⟩
    case round =>
      obtain ⟨j, cur', rfl, hj, rfl, hC⟩ := hrel
      obtain ⟨hC1, hC2, hC3, hC4⟩ := hC.out
      have hR := Lib.hid (HL.out.chg hC1 fun k hk => hk ▸ hgl)
      have m2 : wr.cell? ⟨wl, 2, none⟩ = some (.slice ba nb bc) := by rw [← HNB.out]; exact cell_of hR.out.me rfl
      by_cases hlt : j < cap
      · have hltI : (j : Int) < (cap : Int) := by omega
        have hj0 : (0 : Int) ≤ (j : Int) := by omega
        have gf : ∀ i, wr.frozen? ⟨g, i, none⟩ = false := fun i => free_of hC2
        obtain ⟨x0, hx0⟩ : ∃ x, cur'[j]? = some x := ⟨_, Array.getElem?_eq_getElem (by omega)⟩
        have gc : wr.cell? ⟨g, j, none⟩ = some x0 := cell_of hC2 hx0
        obtain ⟨b8, hb8⟩ : ∃ b8 : Int, -(nb : Int) = b8 := ⟨_, rfl⟩
        have hmod : IntKind.i64.wrap (-(nb : Int)) = b8 := by rw [IntKind.wrap_i64]; omega
        have HB8 := Lib.hid hb8
        clear hC1 hC2 hC3 hC4 hb8 hx0
        go_wp2_with fail
        go_roundg (cap - (j + 1))
        case measure => omega
        case rel =>
          obtain ⟨hC1, hC2, hC3, hC4⟩ := hC.out
          refine ⟨j + 1, cur'.setIfInBounds j (.int .i64 b8), rfl, by omega, by go_num, Lib.hid ⟨hC1.then (chg_set _), heap_setCell (i := j) _ hC2, by simpa using hC3, fun i hi => ?_⟩⟩
          rw [Array.getElem?_setIfInBounds]
          split
          · rw [if_pos (by omega), HB8.out]
          · exact hC4 i (by omega)
      · obtain rfl : j = cap := by omega
        have hrow2 := hR.out.i
        rw [HNB.out] at hrow2
        have hfr := fill_row hC2 hC3 h5 hC4
        have HFR := Lib.hid hfr
        clear hC1 hC2 hC3 hC4 hfr
        go_wp2_with (at_builtin; refine wpList_append_lies _ rfl _ _ 69 rfl 0 24 i0 (.slice none 0 0) 1 24 Tryz.underlying69 hi hz0 hz1 hz2 rfl (by decide) _ _ _ rfl (hrow2.alloc _) ⟨wr.heap.size, 0, none⟩ 1 1 [.slice (some ⟨g, 0, none⟩) j j] rfl rfl (World.news_of_block (World.alloc_heap_new wr _)) (by simp [Value.oneCell']) (by omega) ?_ ?_ ?_ (wr.heap.size + 1) (by simp) ?_)
        · unfold maxLen; omega
        · omega
        · exact Nat.zero_le _
        intro gg vc' w3 hown' hgrow hat _
        have hc3 : Chg (fun k => (Value.slice ba nb bc).ownBlock = some k) wr w3 := ((Chg.refl _ wr).alloc _).grown hgrow fun k hk => .inl hk
        have hnw : (Value.slice ba nb bc).ownBlock ≠ some wl := fun e => by have h1 := hR.out.io wl (by rw [HNB.out]; exact e); rw [hR.out.own] at h1; cases h1
        have hme3 := (hc3.block _ (lt_of_heap hR.out.me) hnw).trans hR.out.me
        have mf3 : ∀ i, w3.frozen? ⟨wl, i, none⟩ = false := fun i => free_of hme3
        have m3 : w3.cell? ⟨wl, 2, none⟩ = some (.slice ba is.length bc) := cell_of hme3 rfl
        have HOW := Lib.hid hown'
        have HC3 := Lib.hid hc3
        have HG3 := Lib.hid hgrow
        have HME := Lib.hid hme3
        clear hown' hc3 hgrow hme3 hnw hrow2
        go_wp2_with fail
        go_end0
        have hs : Chg (fun k => k = wl) w3 (w3.setCell ⟨wl, 2, none⟩ (.slice (some ⟨gg, 0, none⟩) (nb + 1) vc')) := chg_set _
        have hbwl : ∀ k, (Value.slice (some ⟨gg, 0, none⟩) (nb + 1) vc').ownBlock = some k → (Value.slice ba nb bc).ownBlock = some k ∨ wr.heap.size ≤ k := fun k hk => by
          simp only [Value.ownBlock, Option.some.injEq] at hk; subst hk; exact hat.imp id fun e => by omega
        have hne : ∀ k, (Value.slice (some ⟨gg, 0, none⟩) (nb + 1) vc').ownBlock = some k → k ≠ wl := fun k hk e => by
          obtain ⟨cur2, hcur⟩ := own_heap HOW.out hk
          rw [e] at hcur
          exact ne_of_heap hcur HME.out (by simp) rfl
        obtain ⟨ow', h8, h9⟩ := hR.out.addI (f := .slice (some ⟨g, 0, none⟩) j j) (zv' := .slice (some ⟨gg, 0, none⟩) (nb + 1) vc') (by rw [HNB.out]; exact HFR.out) (fun k hk => by cases hk; exact hgl) (W := w3.setCell ⟨wl, 2, none⟩ (.slice (some ⟨gg, 0, none⟩) (nb + 1) vc')) ((HC3.out.mono fun k _ hk => .inr (by rw [HNB.out]; exact hk)).then (hs.mono fun k _ hk => .inl hk)) (heap_setCell (i := 2) _ HME.out) (by rw [List.length_append, HNB.out]; exact ownsRow_chg HOW.out hs fun k hk e => hne k hk e) fun k hk => by rw [HNB.out]; exact hbwl k hk
        refine ⟨ow', _, _, rfl, h8, fun k hk hv => h9 k (Nat.lt_of_lt_of_le hk (hC.out.1.mono fun k _ hk => show (Value.slice (some ⟨g, 0, none⟩) n j).ownBlock = some k by rw [hk]; rfl).size) hv, ?_⟩
        exact (((hC.out.1.mono fun k _ hk => show (Value.slice (some ⟨g, 0, none⟩) n j).ownBlock = some k by rw [hk]; rfl).mono fun k _ hk => .inr (.inr hk)).then (HC3.out.mono fun k _ hk => .inr (.inl (by rw [HNB.out]; exact hk)))).then (hs.mono fun k _ hk => .inl hk)
end
end Go.Proofs.YticobikhndlejaaGreatDoor

/- The law's bits. -/
namespace Go.Proofs.YticobikhndlejaaGreatDoor
open Go.RowKit Go.Shelf Go.Lib

def oBits (s : ByteArray) : List Bool := s.data.toList.map fun b => b.toNat % 2 == 1
theorem oBits_len (s : ByteArray) : (oBits s).length = s.size := by
  unfold oBits
  rw [List.length_map, Array.length_toList]
  rfl
theorem oBits_succ {s : ByteArray} {j : Nat} (hj : j < s.size) : (oBits s).take (j + 1) = (oBits s).take j ++ [s[j].toNat % 2 == 1] := by
  have h : j < (oBits s).length := by rw [oBits_len]; exact hj
  rw [List.take_succ_eq_append_getElem h]
  congr 2
  simp [oBits]
  rfl
theorem Tryz.infoBL : (Tryz.prog.info? 4).map (fun i => (i.zero, i.size, i.bytes)) = some (some (.bool false), 1, 1) := by kernel_rfl
set_option maxRecDepth 100000 in
set_option maxHeartbeats 2000000 in
theorem bits_l (k : ByteArray) (w : World) (hkz : k.size ≤ 1000000) : Calls Tryz.prog 93 #[.string k] w fun y w' => ∃ v, y = .returned v ∧ w'.ownsRow w.heap.size 4 1 v k.size ((oBits k).map Value.bool) ∧ Below w.heap.size w w' := by
  obtain ⟨i0, hi, hz0, hz1, hz2⟩ := info_parts Tryz.infoBL
  go_enter Tryz.func93, Tryz.ntmps93
  go_wp2_with fail
  go_loopg [3, 4] k.size (fun kk lv iv wx => ∃ (j2 : Nat), kk = k.size - j2 ∧ j2 ≤ k.size ∧ iv = .int .i64 j2 ∧ wx.ownsRow w.heap.size 4 1 lv j2 (((oBits k).take j2).map Value.bool) ∧ Below w.heap.size w wx)
  case atStart => exact ⟨0, by simp, by omega, rfl, World.ownsRow_nil _ _ _ _, Below.refl _ _⟩
  case round =>
    obtain ⟨j2, rfl, hj2, rfl, hrl, hBl⟩ := hrel
    by_cases hl2 : j2 < k.size
    · have hl2I : (j2 : Int) < (k.size : Int) := by omega
      have g2 : (0 : Int) ≤ (j2 : Int) := by omega
      have hsucc := oBits_succ hl2
      obtain ⟨b, hb⟩ : ∃ b : UInt8, k[j2] = b := ⟨_, rfl⟩
      rw [hb] at hsucc
      have hbn := b.toNat_lt
      obtain ⟨m2, hm2⟩ : ∃ m2, b.toNat % 2 = m2 := ⟨_, rfl⟩
      have hbr : ((b.toNat : Int)).tmod 2 = (m2 : Int) := by rw [Int.tmod_eq_emod_of_nonneg (by omega)]; omega
      rw [hm2] at hsucc
      have hmm : m2 = 0 ∨ m2 = 1 := by omega
      have HSU := Lib.hid hsucc
      have hszl := hBl.size
      clear hsucc hm2
      rcases hmm with rfl | rfl
      all_goals
        go_wp2_with (at_builtin; refine wpList_append_own _ rfl _ _ 59 rfl w.heap.size 4 i0 (.bool false) 1 1 Tryz.underlying59 hi hz0 hz1 hz2 rfl (by decide) _ _ _ rfl (hrl.alloc _) ⟨wr.heap.size, 0, none⟩ 1 1 [.bool _] rfl rfl (World.news_of_block (World.alloc_heap_new wr _)) (by simp [Value.oneCell']) ?_ ?_ ?_ ?_)
        · unfold maxLen; omega
        · omega
        · simp; omega
        intro v' w4 hown' hgrow _
        have hB4 : Below w.heap.size w w4 := (hBl.alloc hBl.size _).grown hgrow (by simp; omega) (fun k ek => (hrl.lt k ek).1)
        have HO := Lib.hid hown'
        clear hown' hgrow hrl
        go_wp2
        go_roundg (k.size - (j2 + 1))
        case measure => omega
        case rel => exact ⟨j2 + 1, rfl, by omega, by go_num, by rw [HSU.out, List.map_append, List.map_take]; exact HO.out, hB4⟩
    · obtain rfl : j2 = k.size := by omega
      have hall : (oBits k).take k.size = oBits k := List.take_of_length_le (by rw [oBits_len]; exact Nat.le_refl _)
      rw [hall] at hrl
      obtain ⟨la, lc, rfl⟩ := own_slice hrl
      have HRL := Lib.hid hrl
      clear hrl hall
      go_wp2_with fail
      go_ret
      exact ⟨_, rfl, HRL.out, hBl⟩
set_option maxRecDepth 100000 in
set_option maxHeartbeats 2000000 in
theorem still_l (k : ByteArray) (w : World) (hkz : k.size ≤ 1000000) {base : Nat} {v : Value} (hv : w.ownsRow base 4 1 v k.size ((oBits k).map Value.bool)) : Calls Tryz.prog 95 #[v, .string k] w fun y w' => y = .returned (.bool true) ∧ Below w.heap.size w w' := by
  obtain ⟨va, vc, rfl⟩ := own_slice hv
  have HV := Lib.hid hv
  clear hv
  go_enter Tryz.func95, Tryz.ntmps95
  go_wp2_with fail
  go_loopg [5] k.size (fun kk iv wx => ∃ (j2 : Nat), kk = k.size - j2 ∧ j2 ≤ k.size ∧ iv = .int .i64 j2 ∧ Hid (Below w.heap.size w wx))
  case atStart => exact ⟨0, by simp, by omega, rfl, Lib.hid (Below.refl _ _)⟩
  case round =>
    obtain ⟨j2, rfl, hj2, rfl, hBl⟩ := hrel
    by_cases hl2 : j2 < k.size
    · have hl2I : (j2 : Int) < (k.size : Int) := by omega
      have g2 : (0 : Int) ≤ (j2 : Int) := by omega
      have hat : ((oBits k).map Value.bool)[j2]? = some (.bool (k[j2].toNat % 2 == 1)) := by
        have hsucc := oBits_succ hl2
        have hl : j2 < (oBits k).length := by rw [oBits_len]; exact hl2
        rw [List.take_succ_eq_append_getElem hl] at hsucc
        have e := List.append_cancel_left hsucc
        simp only [List.cons.injEq, and_true] at e
        rw [List.getElem?_map, List.getElem?_eq_getElem hl, e]
        rfl
      obtain ⟨b, hb⟩ : ∃ b : UInt8, k[j2] = b := ⟨_, rfl⟩
      rw [hb] at hat
      have hbn := b.toNat_lt
      obtain ⟨m2, hm2⟩ : ∃ m2, b.toNat % 2 = m2 := ⟨_, rfl⟩
      have hbr : ((b.toNat : Int)).tmod 2 = (m2 : Int) := by rw [Int.tmod_eq_emod_of_nonneg (by omega)]; omega
      rw [hm2] at hat
      have hmm : m2 = 0 ∨ m2 = 1 := by omega
      obtain ⟨g, rfl, _, _, p1⟩ := row_at (ownsRow_chg HV.out (chgB hBl.out fun _ => False) fun _ _ z => z) hat (by rw [List.length_map, oBits_len])
      clear hat hm2
      rcases hmm with rfl | rfl
      all_goals
        go_wp2_with fail
        go_quiet (fail)
        go_wp2_with fail
        go_roundg (k.size - (j2 + 1))
        case measure => omega
        case rel => exact ⟨j2 + 1, rfl, by omega, by go_num, Lib.hid (below_drewN hBl.out _)⟩
    · obtain rfl : j2 = k.size := by omega
      go_wp2_with fail
      go_ret
      exact ⟨rfl, hBl.out⟩
end Go.Proofs.YticobikhndlejaaGreatDoor

/- The law's world: a command is the same, its requests are the caller's. -/
namespace Go.Proofs.YticobikhndlejaaGreatDoor
open Go.RowKit Go.Shelf Go.Lib

section
variable {wb w : World} {wl : Nat} {ow : Nat → Lab} {qv bv iv : Value} {ps : List LP} {bs is : List Value}
set_option maxRecDepth 100000 in
set_option maxHeartbeats 2000000 in
theorem command_l (h : LB wb w wl ow qv bv iv ps bs is) (hi : is.length ≤ 1000000) (cw : Bool) (cp cc : Int) (va vb : Value) (ns : List Int) {b1 b2 : Nat} (ha : w.ownsRow b1 3 1 va ns.length (ns.map fun n => Value.int .i64 n)) (hb : w.ownsRow b2 3 1 vb ns.length (ns.map fun n => Value.int .i64 n)) (hn : ns.length ≤ 1000000) (hl : ∀ k, va.ownBlock = some k → ow k = .loose) :
    Calls Tryz.prog 85 #[ptr wl, .agg #[.bool cw, .int .i64 cp, .int .i64 cc, va], .agg #[.bool cw, .int .i64 cp, .int .i64 cc, vb]] w fun y w' => ∃ ow' iv' f, y = .returned (.bool true) ∧ LB wb w' wl ow' qv bv iv' ps bs (is ++ [f]) ∧ (∀ k, k < w.heap.size → va.ownBlock ≠ some k → ow' k = ow k) ∧ Chg (fun k => k = wl ∨ iv.ownBlock = some k ∨ va.ownBlock = some k) w w' := by
  obtain ⟨aa, ac, rfl⟩ := own_slice ha
  obtain ⟨ba, bc, rfl⟩ := own_slice hb
  obtain ⟨W0, hW0⟩ : ∃ W0, (w.alloc (.cells #[.bool cw, .int .i64 cp, .int .i64 cc, .slice aa ns.length ac] 48)).alloc (.cells #[.bool cw, .int .i64 cp, .int .i64 cc, .slice ba ns.length bc] 48) = W0 := ⟨_, rfl⟩
  have h1 : W0.heap[w.heap.size + 1]? = some (.cells #[.bool cw, .int .i64 cp, .int .i64 cc, .slice ba ns.length bc] 48 (0, 0)) := by
    rw [← hW0]
    have := World.alloc_heap_new (w.alloc (.cells #[.bool cw, .int .i64 cp, .int .i64 cc, .slice aa ns.length ac] 48)) (.cells #[.bool cw, .int .i64 cp, .int .i64 cc, .slice ba ns.length bc] 48)
    rwa [show (w.alloc (.cells #[.bool cw, .int .i64 cp, .int .i64 cc, .slice aa ns.length ac] 48)).heap.size = w.heap.size + 1 from by simp] at this
  have hb0 : Below w.heap.size w W0 := by rw [← hW0]; exact ((Below.refl _ _).alloc (Nat.le_refl _) _).alloc (by simp) _
  have h0 : W0.heap[w.heap.size]? = some (.cells #[.bool cw, .int .i64 cp, .int .i64 cc, .slice aa ns.length ac] 48 (0, 0)) := by
    rw [← hW0]
    refine (Below.heap_alloc _ _ _ (by simp)).trans ?_
    exact World.alloc_heap_new w _
  have a0 : W0.cell? ⟨w.heap.size, 0, none⟩ = some (.bool cw) := cell_of h0 rfl
  have a1 : W0.cell? ⟨w.heap.size, 1, none⟩ = some (.int .i64 cp) := cell_of h0 rfl
  have a2 : W0.cell? ⟨w.heap.size, 2, none⟩ = some (.int .i64 cc) := cell_of h0 rfl
  have a3 : W0.cell? ⟨w.heap.size, 3, none⟩ = some (.slice aa ns.length ac) := cell_of h0 rfl
  have b0 : W0.cell? ⟨w.heap.size + 1, 0, none⟩ = some (.bool cw) := cell_of h1 rfl
  have b1 : W0.cell? ⟨w.heap.size + 1, 1, none⟩ = some (.int .i64 cp) := cell_of h1 rfl
  have b2 : W0.cell? ⟨w.heap.size + 1, 2, none⟩ = some (.int .i64 cc) := cell_of h1 rfl
  have b3 : W0.cell? ⟨w.heap.size + 1, 3, none⟩ = some (.slice ba ns.length bc) := cell_of h1 rfl
  have HL := Lib.hid (h.below hb0)
  have HA := Lib.hid (ownsRow_chg ha (chgB hb0 fun _ => False) fun _ _ z => z)
  have HS := Lib.hid (sameInts_l W0 _ _ ns _ _ HA.out (ownsRow_chg hb (chgB hb0 fun _ => False) fun _ _ z => z) hn)
  have HW0 := Lib.hid hW0
  have HB0 := Lib.hid hb0
  have HLO := Lib.hid hl
  have l1 := lt_of_heap h1
  clear h ha hb hW0 hb0 h0 h1 hl
  go_enter Tryz.func85, Tryz.ntmps85
  go_upto_region 1 with fail
  rw [HW0.out]
  go_wp2_with fail
  refine HS.out.mono ?_
  rintro y w2 ⟨rfl, hB2⟩
  have l0 : w.heap.size < W0.heap.size := by omega
  have c0 : w2.cell? ⟨w.heap.size, 0, none⟩ = some (.bool cw) := (hB2.cell (p := ⟨w.heap.size, 0, none⟩) l0).trans a0
  have c1 : w2.cell? ⟨w.heap.size, 1, none⟩ = some (.int .i64 cp) := (hB2.cell (p := ⟨w.heap.size, 1, none⟩) l0).trans a1
  have c2 : w2.cell? ⟨w.heap.size, 2, none⟩ = some (.int .i64 cc) := (hB2.cell (p := ⟨w.heap.size, 2, none⟩) l0).trans a2
  have c3 : w2.cell? ⟨w.heap.size, 3, none⟩ = some (.slice aa ns.length ac) := (hB2.cell (p := ⟨w.heap.size, 3, none⟩) l0).trans a3
  have d0 : w2.cell? ⟨w.heap.size + 1, 0, none⟩ = some (.bool cw) := (hB2.cell (p := ⟨w.heap.size + 1, 0, none⟩) l1).trans b0
  have d1 : w2.cell? ⟨w.heap.size + 1, 1, none⟩ = some (.int .i64 cp) := (hB2.cell (p := ⟨w.heap.size + 1, 1, none⟩) l1).trans b1
  have d2 : w2.cell? ⟨w.heap.size + 1, 2, none⟩ = some (.int .i64 cc) := (hB2.cell (p := ⟨w.heap.size + 1, 2, none⟩) l1).trans b2
  have hLL : LB wb w2 wl ow qv bv iv ps bs is := HL.out.below hB2
  have HO := Lib.hid (owned_l hLL hi (ownsRow_chg HA.out (chgB hB2 fun _ => False) fun _ _ z => z) HLO.out)
  have HB2 := Lib.hid (HB0.out.trans (hB2.mono HB0.out.size))
  clear a0 a1 a2 a3 b0 b1 b2 b3 hLL hB2
  cases cw
  all_goals
    go_wp2_with fail
    refine HO.out.mono ?_
    rintro y w3 ⟨ow', iv', f, rfl, h8, h9, h10⟩
    have H8 := Lib.hid h8
    clear h8
    go_wp2_with fail
    go_ret
    exact ⟨ow', iv', f, rfl, H8.out, fun k hk hv => h9 k (Nat.lt_of_lt_of_le hk HB2.out.size) hv, (chgB HB2.out _).then h10⟩
end
end Go.Proofs.YticobikhndlejaaGreatDoor

/- The law: cancelled. -/
namespace Go.Proofs.YticobikhndlejaaGreatDoor
open Go.RowKit Go.Shelf Go.Lib

/-- What Cancel says and does, on both sides. -/
theorem cancel_both (t : St) (hk : t.Ok) (hsm : t.Small) (n : Int) : ∃ (k r tt : Int) (T : St), ((k = 9 ∧ r = n) ∨ (k ≠ 9 ∧ r = -1 ∧ tt = 0)) ∧ T.Ok ∧ T.last = t.last ∧ T.now = t.now ∧
    (∀ (w : World) (q : Nat) (F : Nat → Prop), QT w q t F → ErrVar w → ¬ F 0 → Calls Tryz.prog 15 #[ptr q, .int .i64 n] w fun y w' => ∃ F', y = .returned (plErr k r tt) ∧ QT w' q T F' ∧ (∀ k, F' k → F k ∨ w.heap.size ≤ k) ∧ Chg F w w') ∧
    (∀ (w : World) (q : Nat) (G : Nat → Prop), RT w q t G → Calls Tryz.prog 83 #[ptr q, .int .i64 n] w fun y w' => ∃ G', y = .returned (.tuple #[.int .i64 k, .int .i64 tt]) ∧ RT w' q T G' ∧ (∀ k, G' k → G k ∨ w.heap.size ≤ k) ∧ Chg G w w') := by
  cases hf : t.find n with
  | none =>
    refine ⟨5, -1, 0, t, .inr ⟨by decide, rfl, rfl⟩, hk, rfl, rfl, fun w q F h hg _ => ?_, fun w q G h => ?_⟩
    · exact (cancel_none_p h hg n hf).mono fun x w' ⟨e, hb⟩ => ⟨F, e, h.below hb, fun k hk => .inl hk, chgB hb _⟩
    · exact (cancel_none_r h hk hsm n hf).mono fun x w' ⟨e, hb⟩ => ⟨G, e, h.below hb, fun k hk => .inl hk, chgB hb _⟩
  | some r =>
    by_cases hst : 2 ≤ r.state
    · refine ⟨9, n, r.tries, t, .inl ⟨rfl, rfl⟩, hk, rfl, rfl, fun w q F h hg _ => ?_, fun w q G h => ?_⟩
      · exact (cancel_done_p h hg n r hf hst).mono fun x w' ⟨e, hb⟩ => ⟨F, e, h.below hb, fun k hk => .inl hk, chgB hb _⟩
      · exact (cancel_some_r h hk hsm n r hf hst).mono fun x w' ⟨e, hb⟩ => ⟨G, e, h.below hb, fun k hk => .inl hk, chgB hb _⟩
    · refine ⟨0, -1, 0, t.give n, .inr ⟨by decide, rfl, rfl⟩, ok_give hk hf, rfl, rfl, fun w q F h hg h0 => ?_, fun w q G h => ?_⟩
      · exact (cancel_ok_p h hk hsm hg h0 n r hf (by omega)).mono fun x w' ⟨e, h1, h2⟩ => ⟨F, e, h1, fun k hk => .inl hk, h2⟩
      · exact (cancel_give_r h hk hsm n r hf (by omega)).mono fun x w' ⟨e, h1, h2⟩ => ⟨G, e, h1, fun k hk => .inl hk, h2⟩
section
variable {wb w : World} {wl : Nat} {ow : Nat → Lab} {qv bv iv : Value} {ps : List LP} {bs is : List Value}
theorem set_at {j : Nat} {p : LP} (hp : ps[j]? = some p) (p' : LP) : (ps.set j p')[j]? = some p' := by
  rw [List.getElem?_set_self (List.getElem?_eq_some_iff.1 hp).1]
/-- What is not there yet is nobody's. -/
theorem LB.norm (h : LB wb w wl ow qv bv iv ps bs is) : ∃ ow', LB wb w wl ow' qv bv iv ps bs is ∧ (∀ k, k < w.heap.size → ow' k = ow k) ∧ ∀ k, w.heap.size ≤ k → ow' k = .loose :=
  ⟨fun k => if k < w.heap.size then ow k else .loose, h.relabel fun k hk _ => by simp [hk], fun k hk => by simp [hk], fun k hk => by simp [show ¬ k < w.heap.size by omega]⟩
theorem LB.nf (h : LB wb w wl ow qv bv iv ps bs is) (j : Nat) : ¬ ow 0 = .x j := by rw [h.glob]; simp
set_option maxRecDepth 100000 in
set_option maxHeartbeats 2000000 in
theorem cancelled_l (h : LB wb w wl ow qv bv iv ps bs is) {j : Nat} {p : LP} (hp : ps[j]? = some p) (htu : p.u = p.t) (hk : p.t.Ok) (hsm : p.t.Small) (n : Int) :
    Calls Tryz.prog 53 #[.agg #[ptr p.x, ptr p.m], .int .i64 n] w fun y w' => ∃ ow' T, y = .returned (.bool true) ∧ LB wb w' wl ow' qv bv iv (ps.set j { p with t := T, u := T }) bs is ∧ T.Ok ∧ T.last = p.t.last ∧ T.now = p.t.now := by
  obtain ⟨ow, h, _, hlo⟩ := h.norm
  obtain ⟨k, r, tt, T, hcase, hT, hTl, hTn, hX, hM⟩ := cancel_both p.t hk hsm n
  obtain ⟨px, hpx⟩ : ∃ px, p.x = px := ⟨_, rfl⟩
  obtain ⟨pm, hpm⟩ : ∃ pm, p.m = pm := ⟨_, rfl⟩
  rw [hpx, hpm]
  obtain ⟨W0, hW0⟩ : ∃ W0, w.alloc (.cells #[ptr px, ptr pm] 114) = W0 := ⟨_, rfl⟩
  have h0 : W0.heap[w.heap.size]? = some (.cells #[ptr px, ptr pm] 114 (0, 0)) := by rw [← hW0]; exact World.alloc_heap_new _ _
  have hb0 : Below w.heap.size w W0 := by rw [← hW0]; exact (Below.refl _ _).alloc (Nat.le_refl _) _
  have a0 : W0.cell? ⟨w.heap.size, 0, none⟩ = some (ptr px) := cell_of h0 rfl
  have a1 : W0.cell? ⟨w.heap.size, 1, none⟩ = some (ptr pm) := cell_of h0 rfl
  have HL := Lib.hid h
  have HP := Lib.hid (And.intro hp (And.intro htu (And.intro hT (And.intro hTl hTn))))
  have HX := Lib.hid hX
  have HM := Lib.hid hM
  have HW0 := Lib.hid hW0
  have HB0 := Lib.hid hb0
  have HH0 := Lib.hid h0
  have HC := Lib.hid hcase
  have HLO := Lib.hid hlo
  have HPX := Lib.hid (And.intro hpx hpm)
  clear h hp htu hX hM hW0 hb0 h0 hcase hT hTl hTn hlo hpx hpm
  go_enter Tryz.func53, Tryz.ntmps53
  go_upto_region 1 with fail
  rw [HW0.out]
  go_wp2_with fail
  have hL0 := HL.out.below HB0.out
  refine (HX.out W0 px (fun k => ow k = .x j) (by rw [← HPX.out.1]; exact hL0.xs j p HP.out.1) hL0.err (hL0.nf j)).mono ?_
  rintro y w1 ⟨F', rfl, hq, hF, hc⟩
  obtain ⟨ow1, hL1, ho1, ho2⟩ := hL0.stepX HP.out.1 (by rw [HPX.out.1]; exact hq.lt) (fun k (hk : F' k ∧ k < w1.heap.size) => hF k hk.1) hc
  have hz0 := lt_of_heap HH0.out
  have hlz : ow w.heap.size = .loose := HLO.out _ (Nat.le_refl _)
  have hh1 := (hc.block _ hz0 (fun e => by rw [hlz] at e; cases e)).trans HH0.out
  obtain ⟨W2, hW2⟩ : ∃ W2, w1.alloc (.cells #[.int .i64 k, .int .i64 r, .int .i64 tt, .bool true] 39) = W2 := ⟨_, rfl⟩
  have hb2 : Below w1.heap.size w1 W2 := by rw [← hW2]; exact (Below.refl _ _).alloc (Nat.le_refl _) _
  have hh2 := (hb2.block _ (lt_of_heap hh1)).trans hh1
  have he2 : W2.heap[w1.heap.size]? = some (.cells #[.int .i64 k, .int .i64 r, .int .i64 tt, .bool true] 39 (0, 0)) := by rw [← hW2]; exact World.alloc_heap_new _ _
  have d1 : W2.cell? ⟨w.heap.size, 1, none⟩ = some (ptr pm) := cell_of hh2 rfl
  have hz1 := hc.size
  have HL1 := Lib.hid (hL1.below hb2)
  have HO := Lib.hid (And.intro ho1 ho2)
  have HE2 := Lib.hid he2
  have HW2 := Lib.hid hW2
  have HZ2 := Lib.hid hb2
  clear hq hF hc hL0 hL1 ho1 ho2 hh1 hb2 hh2 he2 hW2 a0 a1
  go_upto_region 2 with fail
  rw [HW2.out]
  go_wp2_with fail
  have hp2 := set_at HP.out.1 { p with t := T }
  have hm2 := HL1.out.ms j _ hp2
  simp only at hm2
  rw [HPX.out.2, HP.out.2.1] at hm2
  refine (HM.out W2 pm (fun k => ow1 k = .m j) hm2).mono ?_
  rintro y w3 ⟨G', rfl, hq, hG, hc⟩
  obtain ⟨ow2, hL2, ho3, _⟩ := HL1.out.stepM hp2 (u' := T) (by simp only; rw [HPX.out.2]; exact hq.lt) (fun k (hk : G' k ∧ k < w3.heap.size) => hG k hk.1) hc
  rw [List.set_set] at hL2
  have hle : ow1 w1.heap.size = .loose := HO.out.2 _ hz1 (fun e => by omega)
  have he3 := (hc.block _ (lt_of_heap HE2.out) (fun e => by rw [hle] at e; cases e)).trans HE2.out
  have g0 : w3.cell? ⟨w1.heap.size, 0, none⟩ = some (.int .i64 k) := cell_of he3 rfl
  have g1 : w3.cell? ⟨w1.heap.size, 1, none⟩ = some (.int .i64 r) := cell_of he3 rfl
  have g2 : w3.cell? ⟨w1.heap.size, 2, none⟩ = some (.int .i64 tt) := cell_of he3 rfl
  have g3 : w3.cell? ⟨w1.heap.size, 3, none⟩ = some (.bool true) := cell_of he3 rfl
  have HL2 := Lib.hid hL2
  clear hp2 hm2 hq hG hc hL2 ho3 hle he3
  rcases HC.out with ⟨rfl, rfl⟩ | ⟨hk9, rfl, rfl⟩
  · go_wp2_with fail
    refine (wrong_l 9 r tt w3).mono ?_
    rintro y w4 ⟨rfl, hB4⟩
    go_wp2_with fail
    go_ret
    exact ⟨ow2, T, rfl, by rw [← HPX.out.1, ← HPX.out.2]; exact HL2.out.below hB4, HP.out.2.2⟩
  · have hk9' : (k == 9) = false := by simp [hk9]
    go_wp2_with fail
    refine (none_l k w3).mono ?_
    rintro y w4 ⟨rfl, hB4⟩
    go_wp2_with fail
    go_ret
    exact ⟨ow2, T, rfl, by rw [← HPX.out.1, ← HPX.out.2]; exact HL2.out.below hB4, HP.out.2.2⟩
end
end Go.Proofs.YticobikhndlejaaGreatDoor
