/- package elevatorkeep by contracts: ask of a write. -/
import Derived.Test.YticobikhndlejaaDoorKeep2
namespace Go.Proofs.YticobikhndlejaaDoor
open Go.RowKit Go.Shelf Go.Lib


set_option maxRecDepth 100000 in
theorem ask_write (wo q : Nat) (rv : Value) (F : Nat → Prop) (t : St) (rs : List KReq) (w : World) (page v : Int) (h : KB w wo q rv F t rs) (hg : ErrVar w) (hF : ¬ F 0) (_hw0 : wo ≠ 0) (hr0 : rv.ownBlock ≠ some 0) (hk : t.Ok) (hs : t.Small) (hh : t.held < 40) (hp : 0 ≤ page ∧ page < 16) (hl : t.last = rs.length) (_hv : 0 ≤ v ∧ v ≤ 255) :
    Calls Tryd.prog 10 #[ptr wo, .bool true, .int .i64 page, .int .u8 v] w fun x w' => x = .returned (.bool true) ∧ ∃ rv' F', KB w' wo q rv' F' (t.add true page (askD v rs.length)) (rs ++ [newK (t.last + 1) true page (strOfNums (askL v rs.length))]) ∧ (∀ k, KFoot wo rv' F' k → KFoot wo rv F k ∨ w.heap.size ≤ k) ∧ Chg (KFoot wo rv F) w w' := by
  have h := h.lt
  obtain ⟨ra, rc, rfl⟩ := own_slice h.row
  obtain ⟨n, hn⟩ : ∃ n, rs.length = n := ⟨_, rfl⟩
  obtain ⟨kk, hkk⟩ : ∃ kk : Int, (n : Int) % 256 = kk := ⟨_, rfl⟩
  obtain ⟨k2, hk2⟩ : ∃ k2 : Int, kk / 2 = k2 := ⟨_, rfl⟩
  have hd4 : askD v rs.length = ⟨v, kk, k2, 1⟩ := by unfold askD; rw [hn, hkk, hk2]
  have hdl : askL v rs.length = [v, kk, k2, 1] := by unfold askL; rw [hn, hkk, hk2]
  rw [hd4, hdl]
  have hw8 : IntKind.u8.wrap (n : Int) = kk := by rw [← hkk]; exact IntKind.wrap_u8 _
  have hkb : 0 ≤ kk ∧ kk < 256 := by omega
  have htd : kk.tdiv 2 = k2 := by rw [← hk2, Int.tdiv_eq_ediv_of_nonneg hkb.1]
  have hk2b : 0 ≤ k2 ∧ k2 < 128 := by omega
  have hw9 : IntKind.u8.wrap k2 = k2 := by rw [IntKind.wrap_u8]; omega
  obtain ⟨sd, hsd⟩ : ∃ sd, strOfNums [v, kk, k2, 1] = sd := ⟨_, rfl⟩
  obtain ⟨W0, hW0⟩ : ∃ W0, (w.alloc (.cells #[.int .i64 0, .bool true, .int .i64 page, .string ⟨#[]⟩, .int .i64 0, .string ⟨#[]⟩] 53)).alloc (.cells #[.int .u8 v, .int .u8 kk, .int .u8 k2, .int .u8 1] 5) = W0 := ⟨_, rfl⟩
  have hcv : ∀ dst, Tryd.prog.underlying dst = some .string → (convert 44 dst (.slice (some ⟨w.heap.size + 1, 0, none⟩) 4 4)).run Tryd.prog W0 = .ok (.string sd) W0 := by
    rw [← hsd]
    have hb : W0.heap[w.heap.size + 1]? = some (.cells #[.int .u8 v, .int .u8 kk, .int .u8 k2, .int .u8 1] 5 (0, 0)) := by
      rw [← hW0, show w.heap.size + 1 = (w.alloc (.cells #[.int .i64 0, .bool true, .int .i64 page, .string ⟨#[]⟩, .int .i64 0, .string ⟨#[]⟩] 53)).heap.size from by simp]; exact World.alloc_heap_new _ _
    refine run_convert_bytes_arg (P := Tryd.prog) W0 44 5 Tryd.underlying44 Tryd.underlying5 (w.heap.size + 1) 0 4 4 [v, kk, k2, 1] rfl fun i hi => ?_
    refine cell_of hb ?_
    match i, hi with
    | 0, _ => rfl
    | 1, _ => rfl
    | 2, _ => rfl
    | 3, _ => rfl
  have hcv2 := hcv 9 Tryd.underlying9
  rw [← hW0] at hcv2
  have c0 := h.c0
  have c1 := h.c1
  rw [hn] at c1
  have HK := Lib.hid h
  have HG := Lib.hid hg
  have hwlt := lt_of_heap h.blk
  have HW0 := Lib.hid hW0
  clear h hg hW0 hcv hd4 hdl
  go_enter Tryd.func10, Tryd.ntmps10
  go_wp2_with fail
  obtain ⟨WA, hWA⟩ : ∃ WA, (w.alloc (.cells #[.int .i64 0, .bool true, .int .i64 page, .string sd, .int .i64 0, .string ⟨#[]⟩] 53)).alloc (.cells #[.int .u8 v, .int .u8 kk, .int .u8 k2, .int .u8 1] 5) = WA := ⟨_, rfl⟩
  have hsA : WA.heap.size = w.heap.size + 2 := by rw [← hWA]; simp
  have hB0 : Below w.heap.size w WA := by rw [← hWA]; exact ((Below.refl _ _).alloc (Nat.le_refl _) _).alloc (by simp) _
  have hrA : WA.heap[w.heap.size]? = some (.cells #[.int .i64 0, .bool true, .int .i64 page, .string sd, .int .i64 0, .string ⟨#[]⟩] 53 (0, 0)) := by
    rw [← hWA]; exact (Below.heap_alloc _ _ _ (by simp)).trans (World.alloc_heap_new w _)
  have hbA : WA.heap[w.heap.size + 1]? = some (.cells #[.int .u8 v, .int .u8 kk, .int .u8 k2, .int .u8 1] 5 (0, 0)) := by
    rw [← hWA, show w.heap.size + 1 = (w.alloc (.cells #[.int .i64 0, .bool true, .int .i64 page, .string sd, .int .i64 0, .string ⟨#[]⟩] 53)).heap.size from by simp]; exact World.alloc_heap_new _ _
  have hdat : DatV WA (.slice (some ⟨w.heap.size + 1, 0, none⟩) 4 4) ⟨v, kk, k2, 1⟩ := .four _ _ _ _ (cell_of hbA rfl) (cell_of hbA rfl) (cell_of hbA rfl) (cell_of hbA rfl)
  have hKA := HK.out.below hB0
  have HKA := Lib.hid hKA
  have HGA := Lib.hid (HG.out.chg (chgB hB0 fun _ => False) fun x => x)
  have HB0 := Lib.hid hB0
  have HR0 := Lib.hid hrA
  have HDA := Lib.hid hdat
  have hwlt0 := lt_of_heap hKA.blk
  rw [hWA]
  clear hWA hB0 hrA hbA hdat hKA hcv2
  refine (write_p HKA.out.que hk hs HGA.out (fun x => hF x.1) hh page hp _ 4 _ HDA.out).mono ?_
  rintro x w1 ⟨rfl, hq1, hc1⟩
  have hr1 := (hc1.block w.heap.size (by omega) (by omega)).trans HR0.out
  have r0 : w1.cell? ⟨w.heap.size, 0, none⟩ = some (.int .i64 0) := cell_of hr1 rfl
  have r1 : w1.cell? ⟨w.heap.size, 1, none⟩ = some (.bool true) := cell_of hr1 rfl
  have r2 : w1.cell? ⟨w.heap.size, 2, none⟩ = some (.int .i64 page) := cell_of hr1 rfl
  have r3 : w1.cell? ⟨w.heap.size, 3, none⟩ = some (.string sd) := cell_of hr1 rfl
  have r4 : w1.cell? ⟨w.heap.size, 4, none⟩ = some (.int .i64 0) := cell_of hr1 rfl
  have r5 : w1.cell? ⟨w.heap.size, 5, none⟩ = some (.string ⟨#[]⟩) := cell_of hr1 rfl
  have rf : ∀ i, w1.frozen? ⟨w.heap.size, i, none⟩ = false := fun i => free_of hr1
  have hK1 := HKA.out.que' hc1 hq1 fun k hk => hk.imp id fun h => by omega
  have hrl := lt_of_heap hr1
  have d0 := hK1.c0
  have d1 := hK1.c1
  have df := hK1.free
  have HK1 := Lib.hid hK1
  have HC1 := Lib.hid hc1
  have HR1 := Lib.hid hr1
  clear hK1 hc1 hr1 hq1
  go_wp2_with fail
  obtain ⟨W2, hW2⟩ : ∃ W2, (w1.setCell ⟨w.heap.size, 0, none⟩ (.int .i64 (n + 1))).alloc (.cells #[.int .i64 0, .int .i64 (-1), .int .i64 0, .bool true] 24) = W2 := ⟨_, rfl⟩
  have hc2 : Chg (fun k => k = w.heap.size) w1 W2 := by rw [← hW2]; exact (chg_set _).alloc _
  have hr2 : W2.heap[w.heap.size]? = some (.cells #[.int .i64 (n + 1), .bool true, .int .i64 page, .string sd, .int .i64 0, .string ⟨#[]⟩] 53 (0, 0)) := by
    rw [← hW2]
    exact (Below.heap_alloc _ _ _ (by simpa [World.setCell] using hrl)).trans (heap_setCell (i := 0) _ HR1.out)
  have hK2 := HK1.out.kept hc2 fun k hk e => by
    rcases hk with h | h | h
    · rcases h with ⟨_, h⟩ | h <;> omega
    · omega
    · obtain ⟨cur, hcur⟩ := own_heap HK.out.row h
      have := lt_of_heap hcur; omega
  rw [hW2]
  have HK2 := Lib.hid hK2
  have HR2 := Lib.hid hr2
  have HC2 := Lib.hid hc2
  clear hK2 hr2 hc2 hW2 r0 r1 r2 r3 r4 r5 rf d0 d1 df
  refine (fine_yes W2).mono ?_
  rintro x w3 ⟨rfl, hB3⟩
  have hr3 := (hB3.block _ (lt_of_heap HR2.out)).trans HR2.out
  have hK3 := HK2.out.below hB3
  have d0 := hK3.c0
  have d1 := hK3.c1
  have df := hK3.free
  have r0 : w3.cell? ⟨w.heap.size, 0, none⟩ = some (.int .i64 (n + 1)) := cell_of hr3 rfl
  have r1 : w3.cell? ⟨w.heap.size, 1, none⟩ = some (.bool true) := cell_of hr3 rfl
  have r2 : w3.cell? ⟨w.heap.size, 2, none⟩ = some (.int .i64 page) := cell_of hr3 rfl
  have r3 : w3.cell? ⟨w.heap.size, 3, none⟩ = some (.string sd) := cell_of hr3 rfl
  have r4 : w3.cell? ⟨w.heap.size, 4, none⟩ = some (.int .i64 0) := cell_of hr3 rfl
  have r5 : w3.cell? ⟨w.heap.size, 5, none⟩ = some (.string ⟨#[]⟩) := cell_of hr3 rfl
  have hwlt3 := lt_of_heap hK3.blk
  have hrl3 := lt_of_heap hr3
  have hrow := hK3.row
  have hneb : ∀ k, (Value.slice ra n rc).ownBlock = some k → wo ≠ k := fun k hk => by
    rw [← hn] at hk; exact hK3.ne hk
  rw [hn] at d1 hrow
  have hwn : IntKind.i64.wrap ((n : Int) + 1) = (n : Int) + 1 := by
    have := hs.last
    rw [IntKind.wrap_i64]; omega
  have HK3 := Lib.hid hK3
  have HB3 := Lib.hid hB3
  clear hK3 hB3 hr3
  go_wp2_with fail
  go_quiet (fail)
  go_wp2_with fail
  obtain ⟨W4, hW4⟩ : ∃ W4, w3.drewN nq = W4 := ⟨_, rfl⟩
  have hB4 : Below w3.heap.size w3 W4 := by rw [← hW4]; exact below_drewN (Below.refl _ _) _
  have hK4 := HK3.out.below hB4
  have hr4 := (hB4.block _ hrl3).trans ((HB3.out.block _ (lt_of_heap HR2.out)).trans HR2.out)
  have d0' := hK4.c0
  have d1' := hK4.c1
  have df' := hK4.free
  have u0 : W4.cell? ⟨w.heap.size, 0, none⟩ = some (.int .i64 (n + 1)) := cell_of hr4 rfl
  have u1 : W4.cell? ⟨w.heap.size, 1, none⟩ = some (.bool true) := cell_of hr4 rfl
  have u2 : W4.cell? ⟨w.heap.size, 2, none⟩ = some (.int .i64 page) := cell_of hr4 rfl
  have u3 : W4.cell? ⟨w.heap.size, 3, none⟩ = some (.string sd) := cell_of hr4 rfl
  have u4 : W4.cell? ⟨w.heap.size, 4, none⟩ = some (.int .i64 0) := cell_of hr4 rfl
  have u5 : W4.cell? ⟨w.heap.size, 5, none⟩ = some (.string ⟨#[]⟩) := cell_of hr4 rfl
  have hrow4 := hK4.row
  rw [hn] at d1' hrow4
  have hwlt4 := lt_of_heap hK4.blk
  have hrl4 := lt_of_heap hr4
  have HK4 := Lib.hid hK4
  have HB4 := Lib.hid hB4
  rw [hW4]
  clear hW4 hK4 hB4 hr4 d0 d1 df r0 r1 r2 r3 r4 r5
  obtain ⟨i4, hi4, hz40, hz41, hz42⟩ := info_parts Tryd.infoQ
  have ag : (Value.slice ra n rc).ownBlock ≠ some wo := fun h => hneb wo h rfl
  have hnl : n ≤ 900000 := by have := hs.last; omega
  have n1 := World.new_ne W4 _ d1'
  have n2 := World.new_ne W4 _ u0
  go_region_law
    ((refine step_append_lies _ (by rfl) _ _ _ (by rfl) 0 53 i4 _ 6 64 Tryd.underlying37 hi4 hz40 hz41 hz42 rfl (by omega) (.slice ra n rc) n _ (by rfl) ((hrow4.alloc _).drew)
        ⟨W4.heap.size, 0, none⟩ 1 1 [.int .i64 (n + 1), .bool true, .int .i64 page, .string sd, .int .i64 0, .string ⟨#[]⟩] (by rfl) (by rfl) (World.news_of_block (cs := #[.int .i64 (n + 1), .bool true, .int .i64 page, .string sd, .int .i64 0, .string ⟨#[]⟩]) (t := 53) (fr := (0, 0)) (heap_alloc_new W4 _)) (by simp [Value.oneCell'])
        (by omega) (by unfold maxLen; omega) (by omega) (by omega) (W4.heap.size + 1) (by simp) ?_; intro gg cap2 w5 hown5 hgrow hat hltg
      have z2 := hgrow.cell (a := ⟨wo, 1, none⟩) (v := .slice ra n rc) (by go_keep) (fun h => ag h.symm)
      have z3 := grown_free hgrow (a := ⟨wo, 1, none⟩) (v := .slice ra n rc) (by go_keep) (by simp [*, frozen?_alloc_cells]) (fun h => ag h.symm)))
  all_goals
    have hg1 : Below W4.heap.size W4 (((W4.alloc (.cells #[.int .i64 (n + 1), .bool true, .int .i64 page, .string sd, .int .i64 0, .string ⟨#[]⟩] 53)).drew)) := by go_grown
    have hKB : KB W4 wo q (.slice ra n rc) _ _ rs := hn ▸ HK4.out
    obtain ⟨f1, f2⟩ := hKB.push hn hg1 (r := newK (n + 1) true page sd) hown5 hgrow hat
    have HF1 := Lib.hid f1
    have HF2 := Lib.hid f2
    clear f1 f2 hKB hg1 hown5 hgrow
    go_wp2_with fail
    go_ret
    refine ⟨rfl, .slice (some ⟨gg, 0, none⟩) (n + 1) cap2, _, HF1.out, ?_, ?_⟩
    · rintro k (h | h | h)
      · rcases h.1 with h | h
        · exact .inl (.inl h.1)
        · exact .inr (by omega)
      · exact .inl (.inr (.inl h))
      · simp [Value.ownBlock] at h
        subst h
        rcases hat with e | e
        · exact .inl (.inr (.inr e))
        · exact .inr (by have := HB4.out.size; have := HB3.out.size; have := HC2.out.size; omega)
    · have g1 : Chg (KFoot wo (.slice ra n rc) F) w w1 := (chgB HB0.out _).then (HC1.out.mono fun k _ hk => .inl hk.1)
      have g2 : Chg (KFoot wo (.slice ra n rc) F) w W4 := ((g1.trans (HC2.out.mono fun k _ hk => .inr (by omega))).of_below HB3.out).of_below HB4.out
      exact g2.then (HF2.out.mono fun k _ hk => hk.elim (fun e => .inr (.inl e)) fun e => .inr (.inr e))
end Go.Proofs.YticobikhndlejaaDoor
