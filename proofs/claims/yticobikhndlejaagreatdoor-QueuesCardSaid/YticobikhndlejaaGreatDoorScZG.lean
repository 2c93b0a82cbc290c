/- The law: told (Waiting, Disk, Step, Crash; any other kind). -/
import Derived.Test.YticobikhndlejaaGreatDoorScZE
import Derived.Test.YticobikhndlejaaGreatDoorScZF
import Derived.BigQuiet
import Derived.Deep.RegionHeld3
import Derived.StillTailTactics
namespace Go.Proofs.YticobikhndlejaaGreatDoor
open Go.RowKit Go.Shelf Go.Lib

theorem now_c {q : Nat} {t : St} {F : Nat → Prop} {w : World} (h : QT w q t F) : Calls Tryz.prog 90 #[ptr q] w fun x w' => x = .returned (.int .i64 t.now) ∧ w' = w := by
  obtain ⟨s, h1, rfl⟩ := h
  exact now_any q s F w h1
section
variable {wb w : World} {wl : Nat} {ow : Nat → Lab} {qv bv iv : Value} {ps : List LP} {bs is : List Value}
/-- The two boxes of a step's question. -/
structure Box2 (w W0 : World) (px pm : Nat) (K A B C : Int) (S : ByteArray) : Prop where
  below : Below w.heap.size w W0
  pair : W0.heap[w.heap.size]? = some (.cells #[ptr px, ptr pm] 114 (0, 0))
  op : W0.heap[w.heap.size + 1]? = some (.cells #[.int .i64 K, .int .i64 A, .int .i64 B, .int .i64 C, .string S] 73 (0, 0))
theorem box2 (w : World) (px pm : Nat) (K A B C : Int) (S : ByteArray) : ∃ W0, (w.alloc (.cells #[ptr px, ptr pm] 114)).alloc (.cells #[.int .i64 K, .int .i64 A, .int .i64 B, .int .i64 C, .string S] 73) = W0 ∧ Box2 w W0 px pm K A B C S := by
  refine ⟨_, rfl, ((Below.refl _ _).alloc (Nat.le_refl _) _).alloc (by simp) _, ?_, ?_⟩
  · refine (Below.heap_alloc _ _ _ (by simp)).trans ?_
    exact World.alloc_heap_new w _
  · have := World.alloc_heap_new (w.alloc (.cells #[ptr px, ptr pm] 114)) (.cells #[.int .i64 K, .int .i64 A, .int .i64 B, .int .i64 C, .string S] 73)
    rwa [show (w.alloc (.cells #[ptr px, ptr pm] 114)).heap.size = w.heap.size + 1 from by simp] at this
set_option maxRecDepth 100000 in
set_option maxHeartbeats 4000000 in
theorem told_wait_l (h : LB wb w wl ow qv bv iv ps bs is) (hil : is.length ≤ 1000000) {j : Nat} {p : LP} (hp : ps[j]? = some p) (htu : p.u = p.t) (hk : p.t.Ok) (hsm : p.t.Small) (A B C : Int) (S : ByteArray) :
    Calls Tryz.prog 58 #[ptr wl, .agg #[ptr p.x, ptr p.m], opV 6 A B C S] w fun y w' => ∃ ow' iv' f, y = .returned (.bool true) ∧ LB wb w' wl ow' qv bv iv' ps bs (is ++ [f]) := by
  obtain ⟨ow, h, _, hlo⟩ := h.norm
  obtain ⟨px, hpx⟩ : ∃ px, p.x = px := ⟨_, rfl⟩
  obtain ⟨pm, hpm⟩ : ∃ pm, p.m = pm := ⟨_, rfl⟩
  rw [hpx, hpm]
  obtain ⟨W0, hW0, hX0⟩ := box2 w px pm 6 A B C S
  have hL0 := h.below hX0.below
  have hxq := hL0.xs j p hp
  have hmq := hL0.ms j p hp
  rw [htu, hpm] at hmq
  rw [hpx] at hxq
  have hwl := wait_len hk hsm
  obtain ⟨ns, hns⟩ : ∃ ns, p.t.waiting = ns := ⟨_, rfl⟩
  have a0 : W0.cell? ⟨w.heap.size, 0, none⟩ = some (ptr px) := cell_of hX0.pair rfl
  have a1 : W0.cell? ⟨w.heap.size, 1, none⟩ = some (ptr pm) := cell_of hX0.pair rfl
  have a2 : W0.cell? ⟨w.heap.size + 1, 0, none⟩ = some (.int .i64 6) := cell_of hX0.op rfl
  have hz := lt_of_heap hX0.pair
  have HL := Lib.hid hL0
  have HX := Lib.hid (And.intro (waiting_c hxq hk hsm) hmq)
  have HP := Lib.hid (And.intro hp (And.intro hk hsm))
  have HNS := Lib.hid (And.intro hns hwl)
  have HW0 := Lib.hid hW0
  have HB := Lib.hid hX0
  have HLO := Lib.hid hlo
  clear h hp htu hk hsm hW0 hX0 hlo hL0 hxq hmq hns hwl hpx hpm
  unfold opV
  go_enter Tryz.func58, Tryz.ntmps58
  go_upto_region 1 with fail
  rw [HW0.out]
  go_wp2_with fail
  refine HX.out.1.mono ?_
  rintro y w1 ⟨v, rfl, hr1, hb1⟩
  rw [HNS.out.1] at hr1
  obtain ⟨va, vc, rfl⟩ := own_slice hr1
  have d1 := (hb1.cell (p := ⟨w.heap.size, 1, none⟩) hz).trans a1
  have HR1 := Lib.hid hr1
  have HB1 := Lib.hid hb1
  clear hr1 hb1
  go_wp2_with fail
  refine (waiting_m (HX.out.2.below HB1.out) HP.out.2.1 HP.out.2.2).mono ?_
  rintro y w2 ⟨v2, rfl, hr2, hb2⟩
  rw [HNS.out.1] at hr2
  obtain ⟨ma, mc, rfl⟩ := own_slice hr2
  have hr1' := ownsRow_chg HR1.out (chgB hb2 fun _ => False) fun _ _ z => z
  have HS := Lib.hid (sameInts_l w2 _ _ ns _ _ hr1' hr2 (by rw [← HNS.out.1]; exact HNS.out.2))
  have HR2 := Lib.hid (And.intro hr1' hb2)
  clear hr2 hr1' hb2
  go_wp2_with fail
  refine HS.out.mono ?_
  rintro y w3 ⟨rfl, hb3⟩
  have hr3 := ownsRow_chg HR2.out.1 (chgB hb3 fun _ => False) fun _ _ z => z
  have hL3 := ((HL.out.below HB1.out).below HR2.out.2).below hb3
  have HO := Lib.hid (owned_l hL3 hil hr3 (fun k hk => HLO.out k (by have := (HR1.out.lt k hk).1; have := HB.out.below.size; omega)))
  clear hr3 hL3 hb3
  go_wp2_with fail
  refine HO.out.mono ?_
  rintro y w4 ⟨ow', iv', f, rfl, hL4, _, _⟩
  have H4 := Lib.hid hL4
  clear hL4
  go_wp2_with fail
  go_ret
  exact ⟨ow', iv', f, rfl, H4.out⟩
set_option maxRecDepth 100000 in
set_option maxHeartbeats 4000000 in
theorem told_disk_l (h : LB wb w wl ow qv bv iv ps bs is) (hbl : bs.length ≤ 1000000) {j : Nat} {p : LP} (hp : ps[j]? = some p) (htu : p.u = p.t) (hk : p.t.Ok) (A B C : Int) (S : ByteArray) :
    Calls Tryz.prog 58 #[ptr wl, .agg #[ptr p.x, ptr p.m], opV 8 A B C S] w fun y w' => ∃ ow' bv' f, y = .returned (.bool true) ∧ LB wb w' wl ow' qv bv' iv ps (bs ++ [f]) is := by
  obtain ⟨ow, h, _, hlo⟩ := h.norm
  obtain ⟨px, hpx⟩ : ∃ px, p.x = px := ⟨_, rfl⟩
  obtain ⟨pm, hpm⟩ : ∃ pm, p.m = pm := ⟨_, rfl⟩
  rw [hpx, hpm]
  obtain ⟨W0, hW0, hX0⟩ := box2 w px pm 8 A B C S
  have hL0 := h.below hX0.below
  have hxq := hL0.xs j p hp
  have hmq := hL0.ms j p hp
  rw [htu, hpm] at hmq
  rw [hpx] at hxq
  obtain ⟨D, hD⟩ : ∃ D, p.t.disk = D := ⟨_, rfl⟩
  have hdl : D.length = 64 := by rw [← hD]; exact hk.a.dlen
  obtain ⟨now, hnow⟩ : ∃ now, p.t.now = now := ⟨_, rfl⟩
  have hdk := disk_c hxq
  rw [hD] at hdk
  have a0 : W0.cell? ⟨w.heap.size, 0, none⟩ = some (ptr px) := cell_of hX0.pair rfl
  have a1 : W0.cell? ⟨w.heap.size, 1, none⟩ = some (ptr pm) := cell_of hX0.pair rfl
  have a2 : W0.cell? ⟨w.heap.size + 1, 0, none⟩ = some (.int .i64 8) := cell_of hX0.op rfl
  have hz := lt_of_heap hX0.pair
  have HL := Lib.hid hL0
  have HX := Lib.hid (And.intro hdk (And.intro hxq hmq))
  have HP := Lib.hid (And.intro hp hk)
  have HD := Lib.hid (And.intro hD (And.intro hdl hnow))
  have HW0 := Lib.hid hW0
  have HB := Lib.hid hX0
  have HLO := Lib.hid hlo
  clear h hp htu hk hW0 hX0 hlo hL0 hxq hmq hD hdl hnow hdk hpx hpm
  unfold opV
  go_enter Tryz.func58, Tryz.ntmps58
  go_upto_region 1 with fail
  rw [HW0.out]
  go_wp2_with fail
  refine HX.out.1.mono ?_
  rintro y w1 ⟨v, rfl, hr1, hb1⟩
  obtain ⟨va, vc, rfl⟩ := own_slice hr1
  have d0 := (hb1.cell (p := ⟨w.heap.size, 0, none⟩) hz).trans a0
  have d1 := (hb1.cell (p := ⟨w.heap.size, 1, none⟩) hz).trans a1
  have hq1 := HX.out.2.1.below hb1
  have hm1 := HX.out.2.2.below hb1
  have hnw := now_c hq1
  rw [HD.out.2.2] at hnw
  have HR1 := Lib.hid hr1
  have HB1 := Lib.hid hb1
  have HQ1 := Lib.hid hnw
  have HM1 := Lib.hid hm1
  clear hr1 hb1 hq1 hm1 hnw
  go_wp2_with fail
  refine HQ1.out.mono ?_
  rintro y w2 ⟨rfl, rfl⟩
  have hdm := disk_m HM1.out HP.out.2
  rw [HD.out.1] at hdm
  obtain ⟨n1, n2, n3, n4⟩ := now_m HM1.out
  rw [HD.out.2.2] at n1
  have hcv := conv_row HR1.out HD.out.2.1 (by decide)
  have HDM := Lib.hid hdm
  clear hdm n3 n4
  go_wp2_with fail
  refine HDM.out.mono ?_
  rintro y w3 ⟨rfl, rfl⟩
  have HO := Lib.hid (mine_l (HL.out.below HB1.out) hbl HR1.out (fun k hk => HLO.out k (by have := (HR1.out.lt k hk).1; have := HB.out.below.size; omega)))
  go_wp2_with fail
  refine HO.out.mono ?_
  rintro y w4 ⟨ow', bv', f, rfl, hL4, _, _⟩
  have H4 := Lib.hid hL4
  clear hL4
  go_wp2_with fail
  go_ret
  exact ⟨ow', bv', f, rfl, H4.out⟩
set_option maxRecDepth 100000 in
set_option maxHeartbeats 4000000 in
theorem told_step_l (h : LB wb w wl ow qv bv iv ps bs is) (hil : is.length ≤ 1000000) {j : Nat} {p : LP} (hp : ps[j]? = some p) (htu : p.u = p.t) (hk : p.t.Ok) (hsm : p.t.Small) (A B C : Int) (S : ByteArray) :
    Calls Tryz.prog 58 #[ptr wl, .agg #[ptr p.x, ptr p.m], opV 9 A B C S] w fun y w' => ∃ ow' iv' f T, y = .returned (.bool true) ∧ LB wb w' wl ow' qv bv iv' (ps.set j { p with t := T, u := T }) bs (is ++ [f]) ∧ T.Ok ∧ T.last = p.t.last ∧ T.now = p.t.now := by
  obtain ⟨ow, h, _, hlo⟩ := h.norm
  obtain ⟨wt, ok, pg, ct, ns, T, hnl, hT, hTl, hTn, hX, hM⟩ := step_both p.t hk hsm
  obtain ⟨px, hpx⟩ : ∃ px, p.x = px := ⟨_, rfl⟩
  obtain ⟨pm, hpm⟩ : ∃ pm, p.m = pm := ⟨_, rfl⟩
  rw [hpx, hpm]
  obtain ⟨W0, hW0, hX0⟩ := box2 w px pm 9 A B C S
  have hL0 := h.below hX0.below
  have a0 : W0.cell? ⟨w.heap.size, 0, none⟩ = some (ptr px) := cell_of hX0.pair rfl
  have a2 : W0.cell? ⟨w.heap.size + 1, 0, none⟩ = some (.int .i64 9) := cell_of hX0.op rfl
  have hz := lt_of_heap hX0.op
  have HL := Lib.hid hL0
  have HX := Lib.hid hX
  have HM := Lib.hid hM
  have HP := Lib.hid (And.intro hp (And.intro htu (And.intro hT (And.intro hTl hTn))))
  have HNL := Lib.hid hnl
  have HW0 := Lib.hid hW0
  have HB := Lib.hid hX0
  have HLO := Lib.hid hlo
  have HPX := Lib.hid (And.intro hpx hpm)
  clear h hp htu hT hTl hTn hX hM hW0 hX0 hlo hL0 hpx hpm hnl
  unfold opV
  go_enter Tryz.func58, Tryz.ntmps58
  go_upto_region 1 with fail
  rw [HW0.out]
  go_wp2_with fail
  refine (HX.out W0 px (fun k => ow k = .x j) (by rw [← HPX.out.1]; exact HL.out.xs j p HP.out.1)).mono ?_
  rintro y w1 ⟨v, F', rfl, hq, hF, hv, hc, hr⟩
  obtain ⟨va, vc, rfl⟩ := own_slice hr
  obtain ⟨ow1, hL1, ho1, ho2⟩ := HL.out.stepX HP.out.1 (by rw [HPX.out.1]; exact hq.lt) (fun k (hk : F' k ∧ k < w1.heap.size) => hF k hk.1) hc
  have hlz : ow w.heap.size = .loose := HLO.out _ (Nat.le_refl _)
  have hh1 := (hc.block _ (lt_of_heap HB.out.pair) (fun e => by rw [hlz] at e; cases e)).trans HB.out.pair
  obtain ⟨W2, hW2⟩ : ∃ W2, w1.alloc (.cells #[.bool wt, .int .i64 pg, .int .i64 ct, .slice va ns.length vc] 48) = W2 := ⟨_, rfl⟩
  have hb2 : Below w1.heap.size w1 W2 := by rw [← hW2]; exact (Below.refl _ _).alloc (Nat.le_refl _) _
  have hh2 := (hb2.block _ (lt_of_heap hh1)).trans hh1
  have he2 : W2.heap[w1.heap.size]? = some (.cells #[.bool wt, .int .i64 pg, .int .i64 ct, .slice va ns.length vc] 48 (0, 0)) := by rw [← hW2]; exact World.alloc_heap_new _ _
  have d1 : W2.cell? ⟨w.heap.size, 1, none⟩ = some (ptr pm) := cell_of hh2 rfl
  have hz1 := hc.size
  have hvl : ∀ k, (Value.slice va ns.length vc).ownBlock = some k → ow1 k = .loose ∧ k < w1.heap.size := fun k hk => ⟨ho2 k (hr.lt k hk).1 fun e => hv k hk e.1, (hr.lt k hk).2⟩
  have HVL := Lib.hid hvl
  have HR2 := Lib.hid (ownsRow_chg hr (chgB hb2 fun _ => False) fun _ _ z => z)
  have HL1 := Lib.hid (hL1.below hb2)
  have HO := Lib.hid (And.intro ho1 ho2)
  have HE2 := Lib.hid he2
  have HW2 := Lib.hid hW2
  clear hq hF hv hr hvl hc hL1 ho1 ho2 hh1 hb2 hh2 he2 hW2 a0 a2
  go_upto_region 17 with fail
  rw [HW2.out]
  go_wp2_with fail
  have hp2 := set_at HP.out.1 { p with t := T }
  have hm2 := HL1.out.ms j _ hp2
  simp only at hm2
  rw [HPX.out.2, HP.out.2.1] at hm2
  refine (HM.out W2 pm (fun k => ow1 k = .m j) hm2).mono ?_
  rintro y w3 ⟨v2, G', rfl, hq, hG, hc, hr⟩
  obtain ⟨ma, mc, rfl⟩ := own_slice hr
  obtain ⟨ow2, hL2, ho3, ho4⟩ := HL1.out.stepM hp2 (u' := T) (by simp only; rw [HPX.out.2]; exact hq.lt) (fun k (hk : G' k ∧ k < w3.heap.size) => hG k hk.1) hc
  rw [List.set_set] at hL2
  have hle : ow1 w1.heap.size = .loose := HO.out.2 _ hz1 (fun e => by omega)
  have he3 := (hc.block _ (lt_of_heap HE2.out) (fun e => by rw [hle] at e; cases e)).trans HE2.out
  obtain ⟨W4, hW4⟩ : ∃ W4, w3.alloc (.cells #[.bool wt, .int .i64 pg, .int .i64 ct, .slice ma ns.length mc] 48) = W4 := ⟨_, rfl⟩
  have hb4 : Below w3.heap.size w3 W4 := by rw [← hW4]; exact (Below.refl _ _).alloc (Nat.le_refl _) _
  have he4 := (hb4.block _ (lt_of_heap he3)).trans he3
  have hf4 : W4.heap[w3.heap.size]? = some (.cells #[.bool wt, .int .i64 pg, .int .i64 ct, .slice ma ns.length mc] 48 (0, 0)) := by rw [← hW4]; exact World.alloc_heap_new _ _
  have g0 : W4.cell? ⟨w1.heap.size, 0, none⟩ = some (.bool wt) := cell_of he4 rfl
  have g1 : W4.cell? ⟨w1.heap.size, 1, none⟩ = some (.int .i64 pg) := cell_of he4 rfl
  have g2 : W4.cell? ⟨w1.heap.size, 2, none⟩ = some (.int .i64 ct) := cell_of he4 rfl
  have g3 : W4.cell? ⟨w1.heap.size, 3, none⟩ = some (.slice va ns.length vc) := cell_of he4 rfl
  have f0 : W4.cell? ⟨w3.heap.size, 0, none⟩ = some (.bool wt) := cell_of hf4 rfl
  have f1 : W4.cell? ⟨w3.heap.size, 1, none⟩ = some (.int .i64 pg) := cell_of hf4 rfl
  have f2 : W4.cell? ⟨w3.heap.size, 2, none⟩ = some (.int .i64 ct) := cell_of hf4 rfl
  have f3 : W4.cell? ⟨w3.heap.size, 3, none⟩ = some (.slice ma ns.length mc) := cell_of hf4 rfl
  have hr3 := ownsRow_chg (ownsRow_chg HR2.out hc fun k hk e => by rw [(HVL.out k hk).1] at e; cases e) (chgB hb4 fun _ => False) fun _ _ z => z
  have hr4 := ownsRow_chg hr (chgB hb4 fun _ => False) fun _ _ z => z
  have hvl3 : ∀ k, (Value.slice va ns.length vc).ownBlock = some k → ow2 k = .loose := fun k hk => (ho3 k (HR2.out.lt k hk).2).trans (HVL.out k hk).1
  have HCM := Lib.hid (command_l (hL2.below hb4) hil wt pg ct _ _ ns hr3 hr4 HNL.out hvl3)
  have HW4 := Lib.hid hW4
  clear hp2 hm2 hq hG hc hL2 ho3 ho4 hle he3 hr hb4 he4 hf4 hr3 hr4 hvl3 hW4
  go_upto_region 18 with fail
  rw [HW4.out]
  go_wp2_with fail
  refine HCM.out.mono ?_
  rintro y w5 ⟨ow', iv', f, rfl, hL5, _, _⟩
  have H5 := Lib.hid hL5
  clear hL5
  cases ok
  all_goals
    go_wp2_with fail
    go_ret
    exact ⟨ow', iv', f, T, rfl, by rw [← HPX.out.1, ← HPX.out.2]; exact H5.out, HP.out.2.2⟩
set_option maxRecDepth 100000 in
set_option maxHeartbeats 4000000 in
theorem told_crash_l (h : LB wb w wl ow qv bv iv ps bs is) {j : Nat} {p : LP} (hp : ps[j]? = some p) (htu : p.u = p.t) (hk : p.t.Ok) (hsm : p.t.Small) (A B C : Int) (S : ByteArray) (hS : S.size ≤ 1000000) :
    Calls Tryz.prog 58 #[ptr wl, .agg #[ptr p.x, ptr p.m], opV 13 A B C S] w fun y w' => ∃ ow' T, y = .returned (.bool true) ∧ LB wb w' wl ow' qv bv iv (ps.set j { p with t := T, u := T }) bs is ∧ T.Ok ∧ T.last = p.t.last ∧ T.now = p.t.now := by
  obtain ⟨ow, h, _, hlo⟩ := h.norm
  obtain ⟨T, hTT⟩ : ∃ T, (p.t.crash fun i => (oBits S).getD i false) = T := ⟨_, rfl⟩
  have hT : T.Ok := by rw [← hTT]; exact ok_crash hk _
  have hTl : T.last = p.t.last := by rw [← hTT]; rfl
  have hTn : T.now = p.t.now := by rw [← hTT]; rfl
  obtain ⟨px, hpx⟩ : ∃ px, p.x = px := ⟨_, rfl⟩
  obtain ⟨pm, hpm⟩ : ∃ pm, p.m = pm := ⟨_, rfl⟩
  rw [hpx, hpm]
  obtain ⟨W0, hW0, hX0⟩ := box2 w px pm 13 A B C S
  have hL0 := h.below hX0.below
  have a0 : W0.cell? ⟨w.heap.size, 0, none⟩ = some (ptr px) := cell_of hX0.pair rfl
  have a2 : W0.cell? ⟨w.heap.size + 1, 0, none⟩ = some (.int .i64 13) := cell_of hX0.op rfl
  have a4 : W0.cell? ⟨w.heap.size + 1, 4, none⟩ = some (.string S) := cell_of hX0.op rfl
  have hz := lt_of_heap hX0.op
  have HL := Lib.hid hL0
  have HK := Lib.hid (And.intro hk hsm)
  have HP := Lib.hid (And.intro hp (And.intro htu (And.intro hT (And.intro hTl hTn))))
  have HT := Lib.hid hTT
  have HW0 := Lib.hid hW0
  have HB := Lib.hid hX0
  have HLO := Lib.hid hlo
  have HPX := Lib.hid (And.intro hpx hpm)
  clear h hp htu hT hTl hTn hTT hW0 hX0 hlo hL0 hpx hpm hk hsm
  unfold opV
  go_enter Tryz.func58, Tryz.ntmps58
  go_upto_region 1 with fail
  rw [HW0.out]
  go_wp2_with fail
  refine (bits_l S W0 hS).mono ?_
  rintro y w1 ⟨v, rfl, hr1, hb1⟩
  obtain ⟨va, vc, rfl⟩ := own_slice hr1
  have hp1 := (hb1.block _ (lt_of_heap HB.out.pair)).trans HB.out.pair
  have ho1 := (hb1.block _ (lt_of_heap HB.out.op)).trans HB.out.op
  have d0 : w1.cell? ⟨w.heap.size, 0, none⟩ = some (ptr px) := cell_of hp1 rfl
  have hL1 := HL.out.below hb1
  have hx1 := hL1.xs j p HP.out.1
  rw [HPX.out.1] at hx1
  have hvl : ∀ k, (Value.slice va S.size vc).ownBlock = some k → ow k = .loose ∧ k < w1.heap.size := fun k hk => ⟨HLO.out k (by have := (hr1.lt k hk).1; have := HB.out.below.size; omega), (hr1.lt k hk).2⟩
  have hB1 : BRow w1 (.slice va S.size vc) (oBits S) := by unfold BRow; rw [oBits_len]; exact ownsRow_lowS hr1 (Nat.zero_le _)
  have hcr := crash_c hx1 HK.out.1 HK.out.2 _ _ hB1 fun k hk e => by rw [(hvl k hk).1] at e; cases e
  rw [HT.out] at hcr
  have HC := Lib.hid hcr
  have HL1 := Lib.hid hL1
  have HR1 := Lib.hid hr1
  have HP1 := Lib.hid (And.intro hp1 ho1)
  have HVL := Lib.hid hvl
  have HB1 := Lib.hid hb1
  clear hr1 hb1 hp1 ho1 hL1 hx1 hvl hB1 hcr
  go_wp2_with fail
  refine HC.out.mono ?_
  rintro y w2 ⟨rfl, hq, hc⟩
  obtain ⟨ow1, hL2, ho1, ho2⟩ := HL1.out.stepX HP.out.1 (by rw [HPX.out.1]; exact hq) (fun k hk => .inl hk) hc
  have hlz : ∀ k, w.heap.size ≤ k → ow k ≠ .x j := fun k hk e => by rw [HLO.out k hk] at e; cases e
  have hp2 := (hc.block _ (lt_of_heap HP1.out.1) (hlz _ (Nat.le_refl _))).trans HP1.out.1
  have ho2' := (hc.block _ (lt_of_heap HP1.out.2) (hlz _ (Nat.le_succ _))).trans HP1.out.2
  have e1 : w2.cell? ⟨w.heap.size, 1, none⟩ = some (ptr pm) := cell_of hp2 rfl
  have e4 : w2.cell? ⟨w.heap.size + 1, 4, none⟩ = some (.string S) := cell_of ho2' rfl
  have hr2 := ownsRow_chg HR1.out hc fun k hk e => by rw [(HVL.out k hk).1] at e; cases e
  have hvl2 : ∀ k, (Value.slice va S.size vc).ownBlock = some k → ow1 k = .loose ∧ k < w2.heap.size := fun k hk => ⟨(ho1 k (HVL.out k hk).2).trans (HVL.out k hk).1, (hr2.lt k hk).2⟩
  have hl1 := lt_of_heap hp2
  have hl2 := lt_of_heap ho2'
  have hl3 : w.heap.size ≠ w2.heap.size := by omega
  have hl4 : w.heap.size + 1 ≠ w2.heap.size := by omega
  have hcr : ∀ (X : World) (v3 : Value), Below w2.heap.size w2 X → X.ownsRow w2.heap.size 4 1 v3 S.size ((oBits S).map Value.bool) → Calls Tryz.prog 96 #[ptr pm, v3] X fun y w' => y = .returned (.tuple #[]) ∧ ∃ owx, LB wb w' wl owx qv bv iv (ps.set j { p with t := T, u := T }) bs is ∧ w'.heap[w.heap.size]? = some (.cells #[ptr px, ptr pm] 114 (0, 0)) ∧ w'.heap[w.heap.size + 1]? = some (.cells #[.int .i64 13, .int .i64 A, .int .i64 B, .int .i64 C, .string S] 73 (0, 0)) ∧ w'.ownsRow W0.heap.size 4 1 (.slice va S.size vc) S.size ((oBits S).map Value.bool) := by
    intro X v3 hX hr3
    have hLX := hL2.below hX
    have hpp2 := set_at HP.out.1 { p with t := T }
    have hm2 := hLX.ms j _ hpp2
    simp only at hm2
    rw [HPX.out.2, HP.out.2.1] at hm2
    have hB3 : BRow X v3 (oBits S) := by unfold BRow; rw [oBits_len]; exact ownsRow_lowS hr3 (Nat.zero_le _)
    have hzz := hc.size
    have hz9 := HB.out.below.size
    have hz8 := HB1.out.size
    have hcc := crash_r X hm2 HK.out.1 HK.out.2 v3 _ hB3 fun k hk e => by
      have h1 := (hr3.lt k hk).1
      have h2 := ho2 k (by omega) (fun e2 => by rw [HLO.out k (by omega)] at e2; cases e2)
      rw [h2] at e; cases e
    rw [HT.out] at hcc
    refine hcc.mono fun y w' ⟨e, hqm, hcm⟩ => ?_
    obtain ⟨ow3, hL3, _, _⟩ := hLX.stepM hpp2 (u' := T) (by simp only; rw [HPX.out.2]; exact hqm) (fun k hk => .inl hk) hcm
    rw [List.set_set] at hL3
    refine ⟨e, ow3, hL3, ?_, ?_, ?_⟩
    · refine (hcm.block _ (Nat.lt_of_lt_of_le hl1 hX.size) fun e => ?_).trans ((hX.block _ hl1).trans hp2)
      rw [ho1 _ (lt_of_heap HP1.out.1), HLO.out _ (Nat.le_refl _)] at e
      cases e
    · refine (hcm.block _ (Nat.lt_of_lt_of_le hl2 hX.size) fun e => ?_).trans ((hX.block _ hl2).trans ho2')
      rw [ho1 _ (lt_of_heap HP1.out.2), HLO.out _ (Nat.le_succ _)] at e
      cases e
    · exact ownsRow_chg (ownsRow_chg hr2 (chgB hX fun _ => False) fun _ _ z => z) hcm fun k hk e => by rw [(hvl2 k hk).1] at e; cases e
  have HCR := Lib.hid hcr
  clear hcr
  have HL2 := Lib.hid hL2
  have HP2 := Lib.hid (And.intro hp2 ho2')
  have HR2 := Lib.hid hr2
  have HVL2 := Lib.hid hvl2
  have HO := Lib.hid (And.intro ho1 ho2)
  have HZ := Lib.hid hc.size
  clear hq hc hL2 ho1 ho2 hlz hp2 ho2' hr2 hvl2 d0 a0 a2 a4
  go_upto_region 29 with fail
  go_cut [132] from 127 to 132 (fun s wx => ∃ owx, Hid (LB wb wx wl owx qv bv iv (ps.set j { p with t := T, u := T }) bs is) ∧ Hid (wx.heap[w.heap.size + 1]? = some (.cells #[.int .i64 13, .int .i64 A, .int .i64 B, .int .i64 C, .string S] 73 (0, 0)) ∧ wx.ownsRow W0.heap.size 4 1 (.slice va S.size vc) S.size ((oBits S).map Value.bool)))
  case first =>
    go_region_held3 (fun w' => w'.cell? ⟨w.heap.size, 1, none⟩ = some (ptr pm) ∧ w'.cell? ⟨w.heap.size + 1, 4, none⟩ = some (.string S)) (go_keep)
      (first
        | (go_at_call 93; refine (bits_l S _ hS).mono ?_; rintro y w3 ⟨v3, rfl, hr3, hb3⟩
           obtain ⟨ba, bc, rfl⟩ := own_slice hr3
           have hy0 : w3.cell? ⟨w.heap.size, 1, none⟩ = some (ptr pm) := (hb3.cell (p := ⟨w.heap.size, 1, none⟩) (by simp; omega)).trans (by go_keep)
           have hy1 : w3.cell? ⟨w.heap.size + 1, 4, none⟩ = some (.string S) := (hb3.cell (p := ⟨w.heap.size + 1, 4, none⟩) (by simp; omega)).trans (by go_keep)
           have hz3 := hb3.size
           try simp at hz3)
        | (go_at_call 96; refine (HCR.out _ _ (by first | exact ⟨hb3.os, hb3.tape, hb3.output, hb3.size, hb3.block⟩ | go_grown) hr3).mono ?_; rintro y w4 ⟨rfl, hres⟩
           have hs0 : w4.cell? ⟨w.heap.size, 1, none⟩ = some (ptr pm) := by obtain ⟨_, _, h1, _⟩ := hres; exact cell_of h1 rfl
           have hs1 : w4.cell? ⟨w.heap.size + 1, 4, none⟩ = some (.string S) := by obtain ⟨_, _, _, h1, _⟩ := hres; exact cell_of h1 rfl
           have HRES := Lib.hid hres
           clear hres))
    all_goals
      go_wp2_with fail
      go_meet
      case rel =>
        obtain ⟨owx, h1, _, h2⟩ := HRES.out
        exact ⟨owx, Lib.hid h1, Lib.hid h2⟩
  case rest =>
    obtain ⟨owx, hLx, hRx⟩ := hcut
    have g4 : World.cell? _ ⟨w.heap.size + 1, 4, none⟩ = some (Value.string S) := cell_of hRx.out.1 rfl
    go_wp2_with fail
    refine (still_l S _ hS hRx.out.2).mono ?_
    rintro y w5 ⟨rfl, hb5⟩
    go_wp2_with fail
    go_ret
    exact ⟨owx, T, rfl, by rw [← HPX.out.1, ← HPX.out.2]; exact hLx.out.below hb5, HP.out.2.2⟩
end
end Go.Proofs.YticobikhndlejaaGreatDoor

/- The law: flown. -/
namespace Go.Proofs.YticobikhndlejaaGreatDoor
open Go.RowKit Go.Shelf Go.Lib

section
variable {wb w : World} {wl : Nat} {ow : Nat → Lab} {qv bv iv : Value} {ps : List LP} {bs is : List Value}
/-- What is known between two commands. -/
structure Flo (wb w : World) (wl : Nat) (qv bv : Value) (ps : List LP) (bs : List Value) (j i n0 : Nat) (v fv : Value) (cs' fs : List (Cmd × Value)) (ow : Nat → Lab) (iv : Value) (is : List Value) : Prop where
  lb : LB wb w wl ow qv bv iv ps bs is
  len : is.length = n0 + i
  row : w.ownsRow 0 48 4 v cs'.length (cs'.flatMap cmdCells)
  rowl : ∀ k, v.ownBlock = some k → ow k = .loose
  rows : ∀ (i' : Nat) (c : Cmd × Value), i ≤ i' → cs'[i']? = some c → w.ownsRow 0 3 1 c.2 c.1.nums.length (c.1.nums.map fun n => Value.int .i64 n) ∧ ∀ k, c.2.ownBlock = some k → ow k = .loose
  mrow : w.ownsRow 0 48 4 fv fs.length (fs.flatMap cmdCells)
  mlab : ∀ k, fv.ownBlock = some k → ow k = .m j
  mrows : ∀ c ∈ fs, w.ownsRow 0 3 1 c.2 c.1.nums.length (c.1.nums.map fun n => Value.int .i64 n) ∧ ∀ k, c.2.ownBlock = some k → ow k = .m j
theorem row_ne {w : World} {b b' sz sz' n n' : Nat} {ty ty' : TypeId} {v v' : Value} {xs xs' : List Value} (h : w.ownsRow b ty sz v n xs) (h' : w.ownsRow b' ty' sz' v' n' xs') (ht : ty ≠ ty') : ∀ k, v.ownBlock = some k → v'.ownBlock ≠ some k := fun k hk hk' => by
  obtain ⟨c, hc⟩ := own_heap h hk
  obtain ⟨c', hc'⟩ := own_heap h' hk'
  exact ne_of_heap hc hc' (fun z => by injection z with _ z2 _; exact ht z2) rfl
set_option maxRecDepth 100000 in
set_option maxHeartbeats 4000000 in
theorem flown_l (h : LB wb w wl ow qv bv iv ps bs is) (hil : is.length ≤ 900000) {j : Nat} {p : LP} (hp : ps[j]? = some p) (htu : p.u = p.t) (hk : p.t.Ok) (hsm : p.t.Small) :
    Calls Tryz.prog 54 #[ptr wl, .agg #[ptr p.x, ptr p.m]] w fun y w' => ∃ ow' iv' is', y = .returned (.bool true) ∧ LB wb w' wl ow' qv bv iv' ps bs is' ∧ is'.length ≤ is.length + 4 := by
  obtain ⟨ow, h, _, hlo⟩ := h.norm
  obtain ⟨px, hpx⟩ : ∃ px, p.x = px := ⟨_, rfl⟩
  obtain ⟨pm, hpm⟩ : ∃ pm, p.m = pm := ⟨_, rfl⟩
  rw [hpx, hpm]
  obtain ⟨W0, hW0⟩ : ∃ W0, w.alloc (.cells #[ptr px, ptr pm] 114) = W0 := ⟨_, rfl⟩
  have h0 : W0.heap[w.heap.size]? = some (.cells #[ptr px, ptr pm] 114 (0, 0)) := by rw [← hW0]; exact World.alloc_heap_new _ _
  have hb0 : Below w.heap.size w W0 := by rw [← hW0]; exact (Below.refl _ _).alloc (Nat.le_refl _) _
  have hL0 := h.below hb0
  have hxq := hL0.xs j p hp
  have hmq := hL0.ms j p hp
  rw [htu, hpm] at hmq
  rw [hpx] at hxq
  obtain ⟨nf, hnf⟩ : ∃ nf, p.t.cs.length = nf := ⟨_, rfl⟩
  have hn4 : nf ≤ 4 := by have := hk.len; have := hk.a.depth; omega
  have hcl : ∀ c ∈ p.t.cs, c.nums.length ≤ 1000000 := fun c hc => cmdnums_len hk hsm hc
  have a0 : W0.cell? ⟨w.heap.size, 0, none⟩ = some (ptr px) := cell_of h0 rfl
  have a1 : W0.cell? ⟨w.heap.size, 1, none⟩ = some (ptr pm) := cell_of h0 rfl
  have hz := lt_of_heap h0
  have HL := Lib.hid hL0
  have HX := Lib.hid (And.intro (flights_c hxq hk hsm) hmq)
  have HNF := Lib.hid (And.intro hnf hcl)
  have HW0 := Lib.hid hW0
  have HB0 := Lib.hid hb0
  have HLO := Lib.hid hlo
  clear h hp htu hk hsm hW0 hlo hL0 hxq hmq hpx hpm hnf hcl h0 hb0
  go_enter Tryz.func54, Tryz.ntmps54
  go_upto_region 1 with fail
  rw [HW0.out]
  go_wp2_with fail
  refine HX.out.1.mono ?_
  rintro y w1 ⟨v, cs', rfl, hcs, hC, hb1⟩
  have d1 := (hb1.cell (p := ⟨w.heap.size, 1, none⟩) hz).trans a1
  have hrow := hC.row
  have hcn : cs'.length = nf := by rw [← HNF.out.1, ← hcs, List.length_map]
  rw [hcn] at hrow
  obtain ⟨va, vc, rfl⟩ := own_slice hrow
  have hm1 := HX.out.2.below hb1
  have HC := Lib.hid hC
  have HCS := Lib.hid (And.intro hcs hcn)
  have HB1 := Lib.hid hb1
  have HM1 := Lib.hid hm1
  clear hrow hC hcs hcn hb1 hm1
  go_wp2_with fail
  refine (flights_m HM1.out).mono ?_
  rintro y w2 ⟨fv, fs, rfl, hfs, hF, hf1, hf2, rfl⟩
  have hfn : fs.length = nf := by rw [← HNF.out.1, ← hfs, List.length_map]
  have hfr := hF.row
  rw [hfn] at hfr
  obtain ⟨fa, fc, rfl⟩ := own_slice hfr
  have hflo : Flo wb w1 wl qv bv ps bs j 0 is.length (.slice va nf vc) (.slice fa nf fc) cs' fs ow iv is :=
    ⟨HL.out.below HB1.out, rfl, ownsRow_lowS HC.out.row (Nat.zero_le _), fun k hk => HLO.out k (by have := (HC.out.row.lt k hk).1; have := HB0.out.size; omega), fun i' c _ hc => ⟨ownsRow_lowS (HC.out.rows c (List.mem_of_getElem? hc)) (Nat.zero_le _), fun k hk => HLO.out k (by have := ((HC.out.rows c (List.mem_of_getElem? hc)).lt k hk).1; have := HB0.out.size; omega)⟩,
      hF.row, hf1, fun c hc => ⟨hF.rows c hc, hf2 c hc⟩⟩
  have HFL := Lib.hid hflo
  have HFS := Lib.hid (And.intro hfs hfn)
  have HAP := Lib.hid HC.out.apart
  clear hfr hF hf1 hf2 hfs hfn hflo HM1 a0 a1 d1
  go_wp2_with fail
  go_loopg [7] nf (fun kk xv wx => ∃ (i : Nat) (ow' : Nat → Lab) (iv' : Value) (is' : List Value), kk = nf - i ∧ i ≤ nf ∧ xv = .int .i64 i ∧ Hid (Flo wb wx wl qv bv ps bs j i is.length (.slice va nf vc) (.slice fa nf fc) cs' fs ow' iv' is'))
  case atStart => exact ⟨0, ow, iv, is, by simp, by omega, rfl, HFL⟩
  case round =>
    obtain ⟨i, ow', iv', is', rfl, hi, rfl, hFl⟩ := hrel
    by_cases hlt : i < nf
    · have hltI : (i : Int) < (nf : Int) := by omega
      have hi0 : (0 : Int) ≤ (i : Int) := by omega
      obtain ⟨⟨c, cv⟩, hc⟩ : ∃ c, cs'[i]? = some c := ⟨_, List.getElem?_eq_getElem (by rw [HCS.out.2]; exact hlt)⟩
      obtain ⟨⟨c2, mv⟩, hc2⟩ : ∃ c, fs[i]? = some c := ⟨_, List.getElem?_eq_getElem (by rw [HFS.out.2]; exact hlt)⟩
      have hcc : c2 = c := by
        have e1 : p.t.cs[i]? = some c := by rw [← HCS.out.1, List.getElem?_map, hc]; rfl
        have e2 : p.t.cs[i]? = some c2 := by rw [← HFS.out.1, List.getElem?_map, hc2]; rfl
        exact Option.some.inj (e2.symm.trans e1)
      subst hcc
      have hcm : c2 ∈ p.t.cs := List.mem_of_getElem? (i := i) (by rw [← HCS.out.1, List.getElem?_map, hc]; rfl)
      obtain ⟨hr, hrl⟩ := hFl.out.rows i _ (Nat.le_refl _) hc
      obtain ⟨hr2, hrl2⟩ := hFl.out.mrows _ (List.mem_of_getElem? hc2)
      obtain ⟨g, cap, e, _, hgl, hcell⟩ := cmd_cells hFl.out.row hc
      simp only [Value.slice.injEq] at e
      obtain ⟨rfl, hdrop, rfl⟩ := e
      clear hdrop
      obtain ⟨g2, cap2, e, _, hgl2, hcell2⟩ := cmd_cells hFl.out.mrow hc2
      simp only [Value.slice.injEq] at e
      obtain ⟨rfl, hdrop, rfl⟩ := e
      clear hdrop
      simp only at hr hr2 hrl hrl2
      obtain ⟨ra, rc, rfl⟩ := own_slice hr
      obtain ⟨sa, sc, rfl⟩ := own_slice hr2
      obtain ⟨m, hm⟩ : ∃ m, c2.nums.length = m := ⟨_, rfl⟩
      have p0 : wr.cell? ⟨g, i * 4, none⟩ = some (.bool c2.write) := hcell 0 _ rfl
      have p1 : wr.cell? ⟨g, i * 4 + 1, none⟩ = some (.int .i64 c2.page) := hcell 1 _ rfl
      have p2 : wr.cell? ⟨g, i * 4 + 2, none⟩ = some (.int .i64 c2.count) := hcell 2 _ rfl
      have p3 : wr.cell? ⟨g, i * 4 + 3, none⟩ = some (.slice ra m rc) := by rw [← hm]; exact hcell 3 _ rfl
      have q0 : wr.cell? ⟨g2, i * 4, none⟩ = some (.bool c2.write) := hcell2 0 _ rfl
      have q1 : wr.cell? ⟨g2, i * 4 + 1, none⟩ = some (.int .i64 c2.page) := hcell2 1 _ rfl
      have q2 : wr.cell? ⟨g2, i * 4 + 2, none⟩ = some (.int .i64 c2.count) := hcell2 2 _ rfl
      have q3 : wr.cell? ⟨g2, i * 4 + 3, none⟩ = some (.slice sa m sc) := by rw [← hm]; exact hcell2 3 _ rfl
      have HR := Lib.hid (And.intro hr (And.intro hr2 (And.intro hrl hrl2)))
      have HCC := Lib.hid (And.intro hc (And.intro hc2 (And.intro hcm hm)))
      clear hr hr2 hrl hrl2 hcell hcell2 hc hc2 hcm hm
      go_wp2_with fail
      go_still_tail 9, (by kernel_rfl)
      change wpList _ _ _ _ _ wr.drew
      obtain ⟨W1, hW1⟩ : ∃ W1, wr.drew = W1 := ⟨_, rfl⟩
      have hB1 : Below wr.heap.size wr W1 := by rw [← hW1]; exact (Below.refl _ _).drew
      have hcom := command_l (hFl.out.lb.below hB1) (by have := hFl.out.len; omega) c2.write c2.page c2.count _ _ c2.nums (ownsRow_chg HR.out.1 (chgB hB1 fun _ => False) fun _ _ z => z) (ownsRow_chg HR.out.2.1 (chgB hB1 fun _ => False) fun _ _ z => z) (HNF.out.2 _ HCC.out.2.2.1) HR.out.2.2.1
      rw [HCC.out.2.2.2] at hcom
      have HCO := Lib.hid hcom
      have HB1 := Lib.hid hB1
      rw [hW1]
      clear hcom hB1 hW1 p0 p1 p2 p3 q0 q1 q2 q3
      go_wp2_with fail
      refine HCO.out.mono ?_
      rintro y w3 ⟨ow2, iv2, f, rfl, hL3, hk3, hc3⟩
      have hcall : Chg (fun k => k = wl ∨ iv'.ownBlock = some k ∨ (Value.slice ra m rc).ownBlock = some k) wr w3 := (chgB HB1.out _).then hc3
      have hnl : ∀ {l : Lab}, l ≠ .me → l ≠ .is → l ≠ .loose → ∀ k, ow' k = l → ¬ (k = wl ∨ iv'.ownBlock = some k ∨ (Value.slice ra m rc).ownBlock = some k) := fun n1 n2 n3 k hk hs => by
        rcases hs with e | e | e
        · rw [e, hFl.out.lb.own] at hk; exact n1 hk.symm
        · rw [hFl.out.lb.io k e] at hk; exact n2 hk.symm
        · rw [HR.out.2.2.1 k (by rw [HCC.out.2.2.2]; exact e)] at hk; exact n3 hk.symm
      have hra : ∀ k, (Value.slice ra c2.nums.length rc).ownBlock = some k → (Value.slice ra m rc).ownBlock = some k := fun k hk => by rw [HCC.out.2.2.2] at hk; exact hk
      have hkeep : ∀ {b ty sz n : Nat} {x : Value} {xs : List Value}, wr.ownsRow b ty sz x n xs → (∀ k, x.ownBlock = some k → ow' k = .loose ∧ (Value.slice ra m rc).ownBlock ≠ some k) → w3.ownsRow b ty sz x n xs ∧ ∀ k, x.ownBlock = some k → ow2 k = .loose := fun hx hn => by
        refine ⟨ownsRow_chg hx hcall fun k hk hs => ?_, fun k hk => ?_⟩
        · rcases hs with e | e | e
          · have := (hn k hk).1; rw [e, hFl.out.lb.own] at this; cases this
          · have := (hn k hk).1; rw [hFl.out.lb.io k e] at this; cases this
          · exact (hn k hk).2 e
        · rw [hk3 k (Nat.lt_of_lt_of_le (hx.lt k hk).2 HB1.out.size) (hn k hk).2]; exact (hn k hk).1
      have hkeepM : ∀ {b ty sz n : Nat} {x : Value} {xs : List Value}, wr.ownsRow b ty sz x n xs → (∀ k, x.ownBlock = some k → ow' k = .m j) → w3.ownsRow b ty sz x n xs ∧ ∀ k, x.ownBlock = some k → ow2 k = .m j := fun hx hn => by
        refine ⟨ownsRow_chg hx hcall fun k hk => hnl (by simp) (by simp) (by simp) k (hn k hk), fun k hk => ?_⟩
        rw [hk3 k (Nat.lt_of_lt_of_le (hx.lt k hk).2 HB1.out.size) (fun e => by have h1 := hn k hk; rw [HR.out.2.2.1 k (by rw [HCC.out.2.2.2]; exact e)] at h1; cases h1)]
        exact hn k hk
      have hrr := hFl.out.row
      have hflo : Flo wb w3 wl qv bv ps bs j (i + 1) is.length (.slice (some ⟨g, 0, none⟩) nf vc) (.slice (some ⟨g2, 0, none⟩) nf fc) cs' fs ow2 iv2 (is' ++ [f]) := by
        obtain ⟨x1, x2⟩ := hkeep hFl.out.row fun k hk => ⟨hFl.out.rowl k hk, row_ne hFl.out.row (HCC.out.2.2.2 ▸ HR.out.1) (by decide) k hk⟩
        obtain ⟨y1, y2⟩ := hkeepM hFl.out.mrow hFl.out.mlab
        refine ⟨hL3, by rw [List.length_append, hFl.out.len]; rfl, x1, x2, fun i2 d hi2 hd => ?_, y1, y2, fun d hd => ?_⟩
        · obtain ⟨z1, z2⟩ := hFl.out.rows i2 d (by omega) hd
          refine hkeep z1 fun k hk => ⟨z2 k hk, fun e => ?_⟩
          obtain ⟨q1, q2⟩ := List.getElem?_eq_some_iff.1 HCC.out.1
          obtain ⟨q3, q4⟩ := List.getElem?_eq_some_iff.1 hd
          refine List.pairwise_iff_getElem.1 HAP.out i i2 q1 q3 (by omega) k ?_ (by rw [q4]; exact hk)
          rw [q2]; exact (by rw [HCC.out.2.2.2]; exact e)
        · obtain ⟨z1, z2⟩ := hFl.out.mrows d hd
          exact hkeepM z1 z2
      have HF3 := Lib.hid hflo
      clear hL3 hk3 hc3 hcall hnl hra hkeep hkeepM hrr hflo
      go_wp2_with fail
      go_roundg (nf - (i + 1))
      case measure => omega
      case rel => exact ⟨i + 1, ow2, iv2, is' ++ [f], rfl, by omega, by go_num, HF3⟩
    · obtain rfl : i = nf := by omega
      have hFo := hFl.out
      rcases hFo.row.2 with ⟨hv, h0⟩ | ⟨g, cap, cur, hv, hbg, h3, h4, h5, h6, h7⟩
      · simp only [Value.slice.injEq] at hv
        obtain ⟨rfl, hnz, rfl⟩ := hv
        subst hnz
        clear hFo h0
        go_wp2_with fail
        go_loopg [10] 0 (fun k i wx => i = .int .i64 0 ∧ wx = wr)
        case atStart => exact ⟨rfl, rfl⟩
        case round =>
          obtain ⟨rfl, rfl⟩ := hrel
          go_wp2_with fail
          go_ret
          exact ⟨ow', iv', is', rfl, hFl.out.lb, by have := hFl.out.len; omega⟩
      · simp only [Value.slice.injEq] at hv
        obtain ⟨rfl, hnz, rfl⟩ := hv
        have hgl := hFo.rowl g rfl
        have HH := Lib.hid h3
        have hcap : vc ≤ 9223372036854775807 := by have := h5; unfold maxLen at this; exact this
        have h6' : cur.size = vc * 4 := h6
        have hnc : i ≤ vc := by rw [hnz]; exact h4
        have HC6 := Lib.hid h6'
        clear hFo h3 h5 h6 h6' h7 hbg hnz h4
        go_wp2_with fail
        obtain ⟨wz, rfl⟩ : ∃ z, z = wr := ⟨_, rfl⟩
        go_loopg [10] vc (fun kk xv wx => ∃ (i : Nat) (cur' : Array Value), kk = vc - i ∧ i ≤ vc ∧ xv = .int .i64 i ∧ Hid (Chg (fun k => k = g) wz wx ∧ wx.heap[g]? = some (.cells cur' 48 (0, 0)) ∧ cur'.size = vc * 4))
        case atStart => exact ⟨0, cur, by simp, by omega, rfl, Lib.hid ⟨Chg.refl _ _, HH.out, HC6.out⟩⟩
        case round =>
          obtain ⟨i2, cur', rfl, hi2, rfl, hC2⟩ := hrel
          by_cases hlt2 : i2 < vc
          · have hltI2 : (i2 : Int) < (vc : Int) := by omega
            have hi20 : (0 : Int) ≤ (i2 : Int) := by omega
            have gf : ∀ j, wr.frozen? ⟨g, i2 * 4 + j, none⟩ = false := fun j => free_of hC2.out.2.1
            have gf0 : wr.frozen? ⟨g, i2 * 4, none⟩ = false := gf 0
            have gc : ∀ j, j < 4 → ∃ x, wr.cell? ⟨g, i2 * 4 + j, none⟩ = some x := fun j hj => ⟨_, cell_of hC2.out.2.1 (Array.getElem?_eq_getElem (by have := hC2.out.2.2; omega))⟩
            obtain ⟨x0, c0'⟩ := gc 0 (by omega)
            have c0 : wr.cell? ⟨g, i2 * 4, none⟩ = some x0 := c0'
            obtain ⟨x1, c1⟩ := gc 1 (by omega)
            obtain ⟨x2, c2⟩ := gc 2 (by omega)
            obtain ⟨x3, c3⟩ := gc 3 (by omega)
            clear gc c0'
            go_wp2_with fail
            go_roundg (vc - (i2 + 1))
            case measure => omega
            case rel =>
              refine ⟨i2 + 1, _, rfl, by omega, by go_num, Lib.hid ⟨(((hC2.out.1.setCell (p := ⟨g, i2 * 4, none⟩) (.inl rfl) _).setCell (p := ⟨g, i2 * 4 + 1, none⟩) (.inl rfl) _).setCell (p := ⟨g, i2 * 4 + 2, none⟩) (.inl rfl) _).setCell (p := ⟨g, i2 * 4 + 3, none⟩) (.inl rfl) _, heap_setCell (i := i2 * 4 + 3) _ (heap_setCell (i := i2 * 4 + 2) _ (heap_setCell (i := i2 * 4 + 1) _ (heap_setCell (i := i2 * 4) _ hC2.out.2.1))), by simpa using hC2.out.2.2⟩⟩
          · obtain rfl : i2 = vc := by omega
            have hLf := hFl.out.lb.chg hC2.out.1 fun k hk => by rw [hk]; exact hgl
            have HLF := Lib.hid hLf
            clear hLf
            go_wp2_with fail
            go_ret
            exact ⟨ow', iv', is', rfl, HLF.out, by have := hFl.out.len; omega⟩
end
end Go.Proofs.YticobikhndlejaaGreatDoor

/- The law: one step, told by kinds (1). -/
namespace Go.Proofs.YticobikhndlejaaGreatDoor
open Go.RowKit Go.Shelf Go.Lib

/-- Which of n things a raw number speaks of. -/
def pickJ (c n : Int) : Int := (if c < 0 then -(c + 1) else c) % n
theorem pickJ_lt (c : Int) {n : Int} (hn : 0 < n) : 0 ≤ pickJ c n ∧ pickJ c n < n := ⟨Int.emod_nonneg _ (by omega), Int.emod_lt_of_pos _ hn⟩
set_option maxRecDepth 100000 in
theorem pick_l (c n : Int) (w : World) (hc : -9223372036854775808 ≤ c ∧ c ≤ 9223372036854775807) (hn : 0 < n ∧ n ≤ 1000000) : Calls Tryz.prog 50 #[.int .i64 c, .int .i64 n] w fun x w' => x = .returned (.int .i64 (pickJ c n)) ∧ w' = w := by
  have hn0 : (n == 0) = false := by simp; omega
  have hnn : ¬ n = 0 := by omega
  by_cases h0 : c < 0
  · have d0 : decide (c < 0) = true := by simpa using h0
    have w1 : IntKind.i64.wrap (c + 1) = c + 1 := by rw [IntKind.wrap_i64]; omega
    have w2 : IntKind.i64.wrap (-(c + 1)) = -(c + 1) := by rw [IntKind.wrap_i64]; omega
    have e : (-(c + 1)).tmod n = pickJ c n := by unfold pickJ; rw [if_pos h0, Int.tmod_eq_emod_of_nonneg (by omega)]
    have hp := pickJ_lt c hn.1
    have w3 : IntKind.i64.wrap (pickJ c n) = pickJ c n := by rw [IntKind.wrap_i64]; omega
    clear h0
    go_enter Tryz.func50, Tryz.ntmps50
    go_wp2_with fail
    go_ret
    exact ⟨rfl, rfl⟩
  · have d0 : decide (c < 0) = false := by simpa using h0
    have e : c.tmod n = pickJ c n := by unfold pickJ; rw [if_neg h0, Int.tmod_eq_emod_of_nonneg (by omega)]
    have hp := pickJ_lt c hn.1
    have w3 : IntKind.i64.wrap (pickJ c n) = pickJ c n := by rw [IntKind.wrap_i64]; omega
    go_enter Tryz.func50, Tryz.ntmps50
    go_wp2_with fail
    go_ret
    exact ⟨rfl, rfl⟩
theorem flat2 : ∀ {ps : List LP} {j : Nat} {p : LP}, ps[j]? = some p → (ps.flatMap pCells)[j * 2]? = some (ptr p.x) ∧ (ps.flatMap pCells)[j * 2 + 1]? = some (ptr p.m)
  | [], _, _, h => by simp at h
  | a :: ps, 0, p, h => by
    simp only [List.getElem?_cons_zero, Option.some.injEq] at h
    subst h
    exact ⟨rfl, rfl⟩
  | a :: ps, j + 1, p, h => by
    rw [List.getElem?_cons_succ] at h
    obtain ⟨h1, h2⟩ := flat2 h
    rw [show (j + 1) * 2 = j * 2 + 1 + 1 from by omega]
    simp only [List.flatMap_cons, pCells, List.cons_append, List.nil_append, List.getElem?_cons_succ]
    exact ⟨h1, h2⟩
theorem pair_cells {w : World} {base : Nat} {v : Value} {ps : List LP} (h : w.ownsRow base 114 2 v ps.length (ps.flatMap pCells)) {j : Nat} {p : LP} (hj : ps[j]? = some p) : ∃ g cap, v = .slice (some ⟨g, 0, none⟩) ps.length cap ∧ g < w.heap.size ∧ w.cell? ⟨g, j * 2, none⟩ = some (ptr p.x) ∧ w.cell? ⟨g, j * 2 + 1, none⟩ = some (ptr p.m) := by
  have hjl := (List.getElem?_eq_some_iff.1 hj).1
  rcases h.2 with ⟨_, h0⟩ | ⟨g, cap, cur, e, hb, h3, h4, h5, h6, h7⟩
  · omega
  · obtain ⟨f1, f2⟩ := flat2 hj
    have g1 : ∀ i v, (ps.flatMap pCells)[i]? = some v → w.cell? ⟨g, i, none⟩ = some v := fun i v hv => by
      refine cell_of h3 ?_
      rw [← h7, List.getElem?_take] at hv
      split at hv
      · rwa [Array.getElem?_toList] at hv
      · cases hv
    exact ⟨g, cap, e, lt_of_heap h3, g1 _ _ f1, g1 _ _ f2⟩
theorem set_same {ps : List LP} {j : Nat} {p : LP} (hp : ps[j]? = some p) (htu : p.u = p.t) : ps.set j { p with t := p.t, u := p.t } = ps := by
  have e : ({ p with t := p.t, u := p.t } : LP) = p := by cases p; simp only at htu; simp [htu]
  rw [e]
  apply List.ext_getElem?
  intro i
  rw [List.getElem?_set]
  split
  · rename_i h
    subst h
    split
    · exact hp.symm
    · rename_i hl
      exact absurd (List.getElem?_eq_some_iff.1 hp).1 hl
  · rfl
/-- What one step leaves. -/
def StepP (wb w' : World) (wl : Nat) (ps : List LP) (bs is : List Value) (j : Nat) (p : LP) : Prop :=
  ∃ ow' qv' bv' iv' T bs' is', LB wb w' wl ow' qv' bv' iv' (ps.set j { p with t := T, u := T }) bs' is' ∧ bs'.length ≤ bs.length + 1 ∧ is'.length ≤ is.length + 4 ∧ T.Ok ∧ T.last ≤ p.t.last + 1 ∧ T.now ≤ p.t.now + 1
end Go.Proofs.YticobikhndlejaaGreatDoor
