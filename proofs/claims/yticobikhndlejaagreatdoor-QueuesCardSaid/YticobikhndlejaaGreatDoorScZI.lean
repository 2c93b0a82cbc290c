/- The law: one step, told by kinds (5): Tick, Complete, any other. Printed by gen_lawW.py. -/
import Derived.Test.YticobikhndlejaaGreatDoorScZG
import Derived.Test.YticobikhndlejaaGreatDoorScZH
import Derived.Test.YticobikhndlejaaGreatDoorScZD
import Derived.Test.YticobikhndlejaaGreatDoorScZA
import Derived.WalkSpells
namespace Go.Proofs.YticobikhndlejaaGreatDoor
open Go.RowKit Go.Shelf Go.Lib

section
variable {wb w : World} {wl : Nat} {ow : Nat → Lab} {qv bv iv : Value} {ps : List LP} {bs is : List Value}
set_option maxRecDepth 100000 in
set_option maxHeartbeats 2000000 in
theorem told_other_l (h : LB wb w wl ow qv bv iv ps bs is) {j : Nat} {p : LP} (_hp : ps[j]? = some p) (K A B C : Int) (S : ByteArray) (hK6 : (K == 6) = false) (hK8 : (K == 8) = false) (hK9 : (K == 9) = false) (hK12 : (K == 12) = false) (hK13 : (K == 13) = false) :
    Calls Tryz.prog 58 #[ptr wl, .agg #[ptr p.x, ptr p.m], opV K A B C S] w fun y w' => ∃ ow', y = .returned (.bool true) ∧ LB wb w' wl ow' qv bv iv ps bs is := by
  obtain ⟨px, hpx⟩ : ∃ px, p.x = px := ⟨_, rfl⟩
  obtain ⟨pm, hpm⟩ : ∃ pm, p.m = pm := ⟨_, rfl⟩
  rw [hpx, hpm]
  obtain ⟨W0, hW0, hX0⟩ := box2 w px pm K A B C S
  have hL0 := h.below hX0.below
  have a2 : W0.cell? ⟨w.heap.size + 1, 0, none⟩ = some (.int .i64 K) := cell_of hX0.op rfl
  have HL := Lib.hid hL0
  have HW0 := Lib.hid hW0
  clear h hW0 hX0 hL0 hpx hpm
  unfold opV
  go_enter Tryz.func58, Tryz.ntmps58
  go_upto_region 1 with fail
  rw [HW0.out]
  go_wp2_with fail
  go_ret
  exact ⟨ow, rfl, HL.out⟩
set_option maxRecDepth 100000 in
set_option maxHeartbeats 4000000 in
theorem step_other_l (h : LB wb w wl ow qv bv iv ps bs is) (hps : ps.length ≤ 1000000) {j : Nat} {p : LP} (hp : ps[j]? = some p) (htu : p.u = p.t) (hk : p.t.Ok) (hsm : p.t.Small) (A B C : Int) (S : ByteArray) (hA : -9223372036854775808 ≤ A ∧ A ≤ 9223372036854775807) (hj : pickJ A ps.length = j) (K : Int) (hK1 : (K == 1) = false) (hK2 : (K == 2) = false) (hK3 : (K == 3) = false) (hK4 : (K == 4) = false) (hK5 : (K == 5) = false) (hK6 : (K == 6) = false) (hK7 : (K == 7) = false) (hK8 : (K == 8) = false) (hK9 : (K == 9) = false) (hK10 : (K == 10) = false) (hK11 : (K == 11) = false) (hK12 : (K == 12) = false) (hK13 : (K == 13) = false) :
    Calls Tryz.prog 30 #[ptr wl, opV K A B C S] w fun y w' => y = .returned (.bool true) ∧ StepP wb w' wl ps bs is j p := by
  obtain ⟨ow, h, _, hlo⟩ := h.norm
  obtain ⟨W0, hW0⟩ : ∃ W0, w.alloc (.cells #[.int .i64 K, .int .i64 A, .int .i64 B, .int .i64 C, .string S] 73) = W0 := ⟨_, rfl⟩
  have h0 : W0.heap[w.heap.size]? = some (.cells #[.int .i64 K, .int .i64 A, .int .i64 B, .int .i64 C, .string S] 73 (0, 0)) := by rw [← hW0]; exact World.alloc_heap_new _ _
  have hb0 : Below w.heap.size w W0 := by rw [← hW0]; exact (Below.refl _ _).alloc (Nat.le_refl _) _
  have hL0 := h.below hb0
  have hjl := (List.getElem?_eq_some_iff.1 hp).1
  obtain ⟨px, hpx⟩ : ∃ px, p.x = px := ⟨_, rfl⟩
  obtain ⟨pm, hpm⟩ : ∃ pm, p.m = pm := ⟨_, rfl⟩
  obtain ⟨gq, qc, rfl, hgq, c1, c2⟩ := pair_cells hL0.q hp
  rw [hpx] at c1
  rw [hpm] at c2
  obtain ⟨np, hnp⟩ : ∃ np, ps.length = np := ⟨_, rfl⟩
  have c0 : W0.cell? ⟨wl, 0, none⟩ = some (.slice (some ⟨gq, 0, none⟩) np qc) := by rw [← hnp]; exact cell_of hL0.me rfl
  have hjl2 := hjl
  rw [hnp] at hjl2 hps hj
  have hnz : ((np : Int) == 0) = false := by simp; omega
  have hjI : (j : Int) < (np : Int) := by omega
  have hj0 : (0 : Int) ≤ (j : Int) := by omega
  have hnp1 : (0 : Int) < (np : Int) ∧ (np : Int) ≤ 1000000 := by omega
  have z0 : W0.cell? ⟨w.heap.size, 0, none⟩ = some (.int .i64 K) := cell_of h0 rfl
  have z1 : W0.cell? ⟨w.heap.size, 1, none⟩ = some (.int .i64 A) := cell_of h0 rfl
  have HL := Lib.hid hL0
  have HP := Lib.hid (And.intro hp (And.intro htu (And.intro hk hsm)))
  have HW0 := Lib.hid hW0
  have HH0 := Lib.hid h0
  have HNP := Lib.hid hnp
  have HPX := Lib.hid (And.intro hpx hpm)
  have HLO := Lib.hid (And.intro hlo hb0.size)
  have HPK := Lib.hid (fun W => by have := pick_l A np W hA hnp1; rw [hj] at this; exact this)
  clear h hp htu hk hsm hW0 hb0 h0 hL0 hpx hpm hnp hj hnp1 hA hjl hjl2 hlo
  unfold opV
  go_enter Tryz.func30, Tryz.ntmps30
  go_upto_region 1 with fail
  rw [HW0.out]
  go_upto_region 5 with fail
  go_cut [5] from 20 to 33 (fun s5 wx => ∃ b, s5 = ptr b ∧ Hid (Below W0.heap.size W0 wx ∧ wx.heap[b]? = some (.cells #[ptr px, ptr pm] 114 (0, 0)) ∧ W0.heap.size ≤ b))
  case first =>
    go_region_held3 (fun w' => w'.cell? ⟨wl, 0, none⟩ = some (.slice (some ⟨gq, 0, none⟩) np qc) ∧ w'.cell? ⟨w.heap.size, 1, none⟩ = some (.int .i64 A) ∧ w'.cell? ⟨gq, j * 2, none⟩ = some (ptr px) ∧ w'.cell? ⟨gq, j * 2 + 1, none⟩ = some (ptr pm)) (go_keep)
      (first
        | (go_at_call 50; refine (HPK.out _).mono ?_; rintro y w2 ⟨rfl, rfl⟩))
    all_goals
      go_wp2_with fail
      go_meet
      case rel => exact ⟨_, rfl, Lib.hid ⟨((Below.refl _ _).alloc (Nat.le_refl _) _).drew, World.alloc_heap_new W0 _, Nat.le_refl _⟩⟩
  case rest =>
    obtain ⟨b, rfl, hB⟩ := hcut
    have hop := (hB.out.1.block _ (lt_of_heap HH0.out)).trans HH0.out
    have e0 := cell_of (i := 0) hop rfl
    have e1 := cell_of (i := 1) hop rfl
    have e2 := cell_of (i := 2) hop rfl
    have e3 := cell_of (i := 3) hop rfl
    have e4 := cell_of (i := 4) hop rfl
    have f0 := cell_of (i := 0) hB.out.2.1 rfl
    have f1 := cell_of (i := 1) hB.out.2.1 rfl
    have hL := HL.out.below hB.out.1
    have hcon := told_other_l hL HP.out.1 K A B C S hK6 hK8 hK9 hK12 hK13
    simp only [opV, HPX.out.1, HPX.out.2] at hcon
    have HCON := Lib.hid hcon
    clear hop hL hcon z0 z1 c0 c1 c2
    go_wp2_with fail
    refine HCON.out.mono ?_
    rintro y w4 ⟨ow', rfl, h1⟩
    have H1 := Lib.hid h1
    clear h1
    go_wp2_with fail
    go_ret
    have H1o := H1.out
    try rw [← HPX.out.1, ← HPX.out.2] at H1o
    exact ⟨rfl, ow', _, _, _, p.t, _, _, by rw [set_same HP.out.1 HP.out.2.1]; exact H1o, Nat.le_succ _, Nat.le_add_right _ _, HP.out.2.2.1, by omega, by omega⟩
set_option maxRecDepth 100000 in
set_option maxHeartbeats 4000000 in
theorem step_tick_l (h : LB wb w wl ow qv bv iv ps bs is) (hps : ps.length ≤ 1000000) {j : Nat} {p : LP} (hp : ps[j]? = some p) (htu : p.u = p.t) (hk : p.t.Ok) (hsm : p.t.Small) (A B C : Int) (S : ByteArray) (hA : -9223372036854775808 ≤ A ∧ A ≤ 9223372036854775807) (hj : pickJ A ps.length = j) :
    Calls Tryz.prog 30 #[ptr wl, opV 7 A B C S] w fun y w' => y = .returned (.bool true) ∧ StepP wb w' wl ps bs is j p := by
  obtain ⟨ow, h, _, hlo⟩ := h.norm
  obtain ⟨W0, hW0⟩ : ∃ W0, w.alloc (.cells #[.int .i64 7, .int .i64 A, .int .i64 B, .int .i64 C, .string S] 73) = W0 := ⟨_, rfl⟩
  have h0 : W0.heap[w.heap.size]? = some (.cells #[.int .i64 7, .int .i64 A, .int .i64 B, .int .i64 C, .string S] 73 (0, 0)) := by rw [← hW0]; exact World.alloc_heap_new _ _
  have hb0 : Below w.heap.size w W0 := by rw [← hW0]; exact (Below.refl _ _).alloc (Nat.le_refl _) _
  have hL0 := h.below hb0
  have hjl := (List.getElem?_eq_some_iff.1 hp).1
  obtain ⟨px, hpx⟩ : ∃ px, p.x = px := ⟨_, rfl⟩
  obtain ⟨pm, hpm⟩ : ∃ pm, p.m = pm := ⟨_, rfl⟩
  obtain ⟨gq, qc, rfl, hgq, c1, c2⟩ := pair_cells hL0.q hp
  rw [hpx] at c1
  rw [hpm] at c2
  obtain ⟨np, hnp⟩ : ∃ np, ps.length = np := ⟨_, rfl⟩
  have c0 : W0.cell? ⟨wl, 0, none⟩ = some (.slice (some ⟨gq, 0, none⟩) np qc) := by rw [← hnp]; exact cell_of hL0.me rfl
  have hjl2 := hjl
  rw [hnp] at hjl2 hps hj
  have hnz : ((np : Int) == 0) = false := by simp; omega
  have hjI : (j : Int) < (np : Int) := by omega
  have hj0 : (0 : Int) ≤ (j : Int) := by omega
  have hnp1 : (0 : Int) < (np : Int) ∧ (np : Int) ≤ 1000000 := by omega
  have z0 : W0.cell? ⟨w.heap.size, 0, none⟩ = some (.int .i64 7) := cell_of h0 rfl
  have z1 : W0.cell? ⟨w.heap.size, 1, none⟩ = some (.int .i64 A) := cell_of h0 rfl
  have HL := Lib.hid hL0
  have HP := Lib.hid (And.intro hp (And.intro htu (And.intro hk hsm)))
  have HW0 := Lib.hid hW0
  have HH0 := Lib.hid h0
  have HNP := Lib.hid hnp
  have HPX := Lib.hid (And.intro hpx hpm)
  have HLO := Lib.hid (And.intro hlo hb0.size)
  have HPK := Lib.hid (fun W => by have := pick_l A np W hA hnp1; rw [hj] at this; exact this)
  clear h hp htu hk hsm hW0 hb0 h0 hL0 hpx hpm hnp hj hnp1 hA hjl hjl2 hlo
  unfold opV
  go_enter Tryz.func30, Tryz.ntmps30
  go_upto_region 1 with fail
  rw [HW0.out]
  go_upto_region 5 with fail
  go_cut [5] from 20 to 33 (fun s5 wx => ∃ b, s5 = ptr b ∧ Hid (Below W0.heap.size W0 wx ∧ wx.heap[b]? = some (.cells #[ptr px, ptr pm] 114 (0, 0)) ∧ W0.heap.size ≤ b))
  case first =>
    go_region_held3 (fun w' => w'.cell? ⟨wl, 0, none⟩ = some (.slice (some ⟨gq, 0, none⟩) np qc) ∧ w'.cell? ⟨w.heap.size, 1, none⟩ = some (.int .i64 A) ∧ w'.cell? ⟨gq, j * 2, none⟩ = some (ptr px) ∧ w'.cell? ⟨gq, j * 2 + 1, none⟩ = some (ptr pm)) (go_keep)
      (first
        | (go_at_call 50; refine (HPK.out _).mono ?_; rintro y w2 ⟨rfl, rfl⟩))
    all_goals
      go_wp2_with fail
      go_meet
      case rel => exact ⟨_, rfl, Lib.hid ⟨((Below.refl _ _).alloc (Nat.le_refl _) _).drew, World.alloc_heap_new W0 _, Nat.le_refl _⟩⟩
  case rest =>
    obtain ⟨b, rfl, hB⟩ := hcut
    have hop := (hB.out.1.block _ (lt_of_heap HH0.out)).trans HH0.out
    have e0 := cell_of (i := 0) hop rfl
    have e1 := cell_of (i := 1) hop rfl
    have e2 := cell_of (i := 2) hop rfl
    have e3 := cell_of (i := 3) hop rfl
    have e4 := cell_of (i := 4) hop rfl
    have f0 := cell_of (i := 0) hB.out.2.1 rfl
    have f1 := cell_of (i := 1) hB.out.2.1 rfl
    have hL := HL.out.below hB.out.1
    have hlx : ∀ k, w.heap.size ≤ k → ¬ ow k = .x j := fun k hk e => by rw [HLO.out.1 k hk] at e; cases e
    have hlm : ∀ k, w.heap.size ≤ k → ¬ ow k = .m j := fun k hk e => by rw [HLO.out.1 k hk] at e; cases e
    obtain ⟨now, hnow⟩ : ∃ now, p.t.now = now := ⟨_, rfl⟩
    have hn0 := HP.out.2.2.1.a.now
    have hn9 := HP.out.2.2.2.now
    rw [hnow] at hn0 hn9
    have hwr : IntKind.i64.wrap (now + 1) = now + 1 := by rw [IntKind.wrap_i64]; omega
    have hxq := hL.xs j p HP.out.1
    rw [HPX.out.1] at hxq
    have HT := Lib.hid (tick_c hxq HP.out.2.2.1 HP.out.2.2.2)
    have HL1 := Lib.hid hL
    have HOP := Lib.hid hop
    have HLX := Lib.hid (And.intro hlx hlm)
    have HNW := Lib.hid hnow
    have HNB := Lib.hid (And.intro hn0 hn9)
    clear hop hL hxq z0 z1 c0 c1 c2 hlx hlm hnow hn9 hn0
    go_wp2_with fail
    refine HT.out.mono ?_
    rintro y w4 ⟨rfl, hq, hc⟩
    obtain ⟨ow1, hL4, ho1, _⟩ := HL1.out.stepX HP.out.1 (by rw [HPX.out.1]; exact hq) (fun k hk => .inl hk) hc
    have hbw : w.heap.size ≤ b := Nat.le_trans HLO.out.2 hB.out.2.2
    have hpr4 := (hc.block _ (lt_of_heap hB.out.2.1) (HLX.out.1 _ hbw)).trans hB.out.2.1
    have hop4 := (hc.block _ (lt_of_heap HOP.out) (HLX.out.1 _ (Nat.le_refl _))).trans HOP.out
    have hp2 := set_at HP.out.1 { p with t := p.t.tick }
    have hm2 := hL4.ms j _ hp2
    simp only at hm2
    rw [HPX.out.2, HP.out.2.1] at hm2
    obtain ⟨n1, n2, n3, n4⟩ := now_m hm2
    obtain ⟨hm3, hc3⟩ := tick_m hm2
    rw [HNW.out] at n1 hm3 hc3
    obtain ⟨W5, hW5⟩ : ∃ W5, w4.setCell ⟨pm, 4, none⟩ (.int .i64 (now + 1)) = W5 := ⟨_, rfl⟩
    rw [hW5] at hm3 hc3
    obtain ⟨ow2, hL5, _, _⟩ := hL4.stepM hp2 (u' := p.t.tick) (by simp only; rw [HPX.out.2]; exact hm3) (fun k hk => .inl hk) hc3
    rw [List.set_set] at hL5
    have hlab : ∀ k, w.heap.size ≤ k → k < w4.heap.size → k < wc.heap.size → ¬ ow1 k = .m j := fun k hk _ hk2 e => by rw [ho1 k hk2] at e; exact HLX.out.2 k hk e
    have hpr5 := (hc3.block _ (lt_of_heap hpr4) (hlab _ hbw (lt_of_heap hpr4) (lt_of_heap hB.out.2.1))).trans hpr4
    have hop5 := (hc3.block _ (lt_of_heap hop4) (hlab _ (Nat.le_refl _) (lt_of_heap hop4) (lt_of_heap HOP.out))).trans hop4
    have j1 := cell_of (i := 1) hpr4 rfl
    have r0 := cell_of (i := 0) hpr5 rfl
    have r1 := cell_of (i := 1) hpr5 rfl
    have t0 := cell_of (i := 0) hop5 rfl
    have t1 := cell_of (i := 1) hop5 rfl
    have t2 := cell_of (i := 2) hop5 rfl
    have t3 := cell_of (i := 3) hop5 rfl
    have t4 := cell_of (i := 4) hop5 rfl
    have hpp := set_at HP.out.1 ({ p with t := p.t.tick, u := p.t.tick } : LP)
    have hcon := told_other_l hL5 hpp 7 A B C S (by decide) (by decide) (by decide) (by decide) (by decide)
    simp only [opV, HPX.out.1, HPX.out.2] at hcon
    have HCON := Lib.hid hcon
    have HW5 := Lib.hid hW5
    clear hq hc hL4 ho1 hpr4 hop4 hp2 hm2 hm3 hc3 hL5 hlab hpr5 hop5 hpp hcon hW5 n4
    go_upto_region 25 with fail
    rw [HW5.out]
    go_wp2_with fail
    refine HCON.out.mono ?_
    rintro y w6 ⟨ow', rfl, h1⟩
    have H1 := Lib.hid h1
    clear h1
    go_wp2_with fail
    go_ret
    have H1o := H1.out
    rw [← HPX.out.1, ← HPX.out.2] at H1o
    exact ⟨rfl, ow', _, _, _, p.t.tick, _, _, H1o, Nat.le_succ _, Nat.le_add_right _ _, ok_tick HP.out.2.2.1, Int.le_add_one (Int.le_refl _), Int.le_refl _⟩
set_option maxRecDepth 100000 in
set_option maxHeartbeats 4000000 in
theorem step_complete_l (h : LB wb w wl ow qv bv iv ps bs is) (hps : ps.length ≤ 1000000) {j : Nat} {p : LP} (hp : ps[j]? = some p) (htu : p.u = p.t) (hk : p.t.Ok) (hsm : p.t.Small) (A B C : Int) (S : ByteArray) (hA : -9223372036854775808 ≤ A ∧ A ≤ 9223372036854775807) (hj : pickJ A ps.length = j) :
    Calls Tryz.prog 30 #[ptr wl, opV 11 A B C S] w fun y w' => y = .returned (.bool true) ∧ StepP wb w' wl ps bs is j p := by
  obtain ⟨ow, h, _, hlo⟩ := h.norm
  obtain ⟨W0, hW0⟩ : ∃ W0, w.alloc (.cells #[.int .i64 11, .int .i64 A, .int .i64 B, .int .i64 C, .string S] 73) = W0 := ⟨_, rfl⟩
  have h0 : W0.heap[w.heap.size]? = some (.cells #[.int .i64 11, .int .i64 A, .int .i64 B, .int .i64 C, .string S] 73 (0, 0)) := by rw [← hW0]; exact World.alloc_heap_new _ _
  have hb0 : Below w.heap.size w W0 := by rw [← hW0]; exact (Below.refl _ _).alloc (Nat.le_refl _) _
  have hL0 := h.below hb0
  have hjl := (List.getElem?_eq_some_iff.1 hp).1
  obtain ⟨px, hpx⟩ : ∃ px, p.x = px := ⟨_, rfl⟩
  obtain ⟨pm, hpm⟩ : ∃ pm, p.m = pm := ⟨_, rfl⟩
  obtain ⟨gq, qc, rfl, hgq, c1, c2⟩ := pair_cells hL0.q hp
  rw [hpx] at c1
  rw [hpm] at c2
  obtain ⟨np, hnp⟩ : ∃ np, ps.length = np := ⟨_, rfl⟩
  have c0 : W0.cell? ⟨wl, 0, none⟩ = some (.slice (some ⟨gq, 0, none⟩) np qc) := by rw [← hnp]; exact cell_of hL0.me rfl
  have hjl2 := hjl
  rw [hnp] at hjl2 hps hj
  have hnz : ((np : Int) == 0) = false := by simp; omega
  have hjI : (j : Int) < (np : Int) := by omega
  have hj0 : (0 : Int) ≤ (j : Int) := by omega
  have hnp1 : (0 : Int) < (np : Int) ∧ (np : Int) ≤ 1000000 := by omega
  have z0 : W0.cell? ⟨w.heap.size, 0, none⟩ = some (.int .i64 11) := cell_of h0 rfl
  have z1 : W0.cell? ⟨w.heap.size, 1, none⟩ = some (.int .i64 A) := cell_of h0 rfl
  have HL := Lib.hid hL0
  have HP := Lib.hid (And.intro hp (And.intro htu (And.intro hk hsm)))
  have HW0 := Lib.hid hW0
  have HH0 := Lib.hid h0
  have HNP := Lib.hid hnp
  have HPX := Lib.hid (And.intro hpx hpm)
  have HLO := Lib.hid (And.intro hlo hb0.size)
  have HPK := Lib.hid (fun W => by have := pick_l A np W hA hnp1; rw [hj] at this; exact this)
  clear h hp htu hk hsm hW0 hb0 h0 hL0 hpx hpm hnp hj hnp1 hA hjl hjl2 hlo
  unfold opV
  go_enter Tryz.func30, Tryz.ntmps30
  go_upto_region 1 with fail
  rw [HW0.out]
  go_upto_region 5 with fail
  go_cut [5] from 20 to 33 (fun s5 wx => ∃ b, s5 = ptr b ∧ Hid (Below W0.heap.size W0 wx ∧ wx.heap[b]? = some (.cells #[ptr px, ptr pm] 114 (0, 0)) ∧ W0.heap.size ≤ b))
  case first =>
    go_region_held3 (fun w' => w'.cell? ⟨wl, 0, none⟩ = some (.slice (some ⟨gq, 0, none⟩) np qc) ∧ w'.cell? ⟨w.heap.size, 1, none⟩ = some (.int .i64 A) ∧ w'.cell? ⟨gq, j * 2, none⟩ = some (ptr px) ∧ w'.cell? ⟨gq, j * 2 + 1, none⟩ = some (ptr pm)) (go_keep)
      (first
        | (go_at_call 50; refine (HPK.out _).mono ?_; rintro y w2 ⟨rfl, rfl⟩))
    all_goals
      go_wp2_with fail
      go_meet
      case rel => exact ⟨_, rfl, Lib.hid ⟨((Below.refl _ _).alloc (Nat.le_refl _) _).drew, World.alloc_heap_new W0 _, Nat.le_refl _⟩⟩
  case rest =>
    obtain ⟨b, rfl, hB⟩ := hcut
    have hop := (hB.out.1.block _ (lt_of_heap HH0.out)).trans HH0.out
    have e0 := cell_of (i := 0) hop rfl
    have e1 := cell_of (i := 1) hop rfl
    have e2 := cell_of (i := 2) hop rfl
    have e3 := cell_of (i := 3) hop rfl
    have e4 := cell_of (i := 4) hop rfl
    have f0 := cell_of (i := 0) hB.out.2.1 rfl
    have f1 := cell_of (i := 1) hB.out.2.1 rfl
    have hL := HL.out.below hB.out.1
    have hlx : ∀ k, w.heap.size ≤ k → ¬ ow k = .x j := fun k hk e => by rw [HLO.out.1 k hk] at e; cases e
    obtain ⟨fault, hfa⟩ : ∃ fault : Bool, (C.tmod 2 != 0) = fault := ⟨_, rfl⟩
    have hfb : (C.tmod 2 == 0) = !fault := by rw [← hfa]; cases h : (C.tmod 2 == 0) <;> simp [bne, h]
    obtain ⟨ok, k, T, hcase, hT, hTl, hTn, hX, hM⟩ := complete_both p.t HP.out.2.2.1 HP.out.2.2.2 B fault
    have hbw : w.heap.size ≤ b := Nat.le_trans HLO.out.2 hB.out.2.2
    have HX := Lib.hid (hX _ px (fun k => ow k = .x j) (by rw [← HPX.out.1]; exact hL.xs j p HP.out.1) hL.err (hL.nf j))
    have HM := Lib.hid hM
    have HT := Lib.hid (And.intro hT (And.intro hTl hTn))
    have HCS := Lib.hid hcase
    have HL1 := Lib.hid hL
    have HOP := Lib.hid hop
    have HLX := Lib.hid (And.intro hlx hbw)
    clear hop hL z0 z1 c0 c1 c2 hlx hbw hX hM hT hTl hTn hcase
    go_wp2_with fail
    refine HX.out.mono ?_
    rintro y w4 ⟨F', rfl, hq, hF, hc⟩
    obtain ⟨ow1, hL4, ho1, ho2⟩ := HL1.out.stepX HP.out.1 (by rw [HPX.out.1]; exact hq.lt) (fun k (hk : F' k ∧ k < w4.heap.size) => hF k hk.1) hc
    have hpr4 := (hc.block _ (lt_of_heap hB.out.2.1) (HLX.out.1 _ HLX.out.2)).trans hB.out.2.1
    have hop4 := (hc.block _ (lt_of_heap HOP.out) (HLX.out.1 _ (Nat.le_refl _))).trans HOP.out
    obtain ⟨W5, hW5⟩ : ∃ W5, w4.alloc (.cells #[.int .i64 k, .int .i64 (-1), .int .i64 0, .bool true] 39) = W5 := ⟨_, rfl⟩
    have hb5 : Below w4.heap.size w4 W5 := by rw [← hW5]; exact (Below.refl _ _).alloc (Nat.le_refl _) _
    have hpr5 := (hb5.block _ (lt_of_heap hpr4)).trans hpr4
    have hop5 := (hb5.block _ (lt_of_heap hop4)).trans hop4
    have he5 : W5.heap[w4.heap.size]? = some (.cells #[.int .i64 k, .int .i64 (-1), .int .i64 0, .bool true] 39 (0, 0)) := by rw [← hW5]; exact World.alloc_heap_new _ _
    have j1 := cell_of (i := 1) hpr5 rfl
    have t2 := cell_of (i := 2) hop5 rfl
    have t3 := cell_of (i := 3) hop5 rfl
    have hL5 := hL4.below hb5
    have hp2 := set_at HP.out.1 { p with t := T }
    have hm2 := hL5.ms j _ hp2
    simp only at hm2
    rw [HPX.out.2, HP.out.2.1] at hm2
    have HMM := Lib.hid (HM.out W5 pm (fun k => ow1 k = .m j) hm2)
    have hle : ow1 w4.heap.size = .loose := ho2 _ hc.size (fun e => by omega)
    have HL5 := Lib.hid hL5
    have HE5 := Lib.hid (And.intro he5 hle)
    have HW5 := Lib.hid hW5
    clear hq hF hc hL4 ho1 ho2 hpr4 hop4 hb5 hpr5 hop5 he5 hL5 hp2 hm2 hle hW5
    go_upto_region 21 with fail
    rw [HW5.out]
    go_wp2_with fail
    refine HMM.out.mono ?_
    rintro y w6 ⟨G', rfl, hq, hG, hc⟩
    obtain ⟨ow2, hL6, _, _⟩ := HL5.out.stepM (set_at HP.out.1 { p with t := T }) (u' := T) (by simp only; rw [HPX.out.2]; exact hq.lt) (fun k (hk : G' k ∧ k < w6.heap.size) => hG k hk.1) hc
    rw [List.set_set] at hL6
    have he6 := (hc.block _ (lt_of_heap HE5.out.1) (fun e => by rw [HE5.out.2] at e; cases e)).trans HE5.out.1
    have g0 : w6.cell? ⟨w4.heap.size, 0, none⟩ = some (.int .i64 k) := cell_of he6 rfl
    have g1 : w6.cell? ⟨w4.heap.size, 1, none⟩ = some (.int .i64 (-1)) := cell_of he6 rfl
    have g2 : w6.cell? ⟨w4.heap.size, 2, none⟩ = some (.int .i64 0) := cell_of he6 rfl
    have g3 : w6.cell? ⟨w4.heap.size, 3, none⟩ = some (.bool true) := cell_of he6 rfl
    have HL6 := Lib.hid hL6
    clear hq hG hc hL6 he6
    rcases HCS.out with ⟨rfl, rfl⟩ | ⟨rfl, rfl⟩
    · go_wp2_with fail
      refine (none_l 10 w6).mono ?_
      rintro y w7 ⟨rfl, hB7⟩
      go_wp2_with fail
      go_ret
      have H1o := HL6.out.below hB7
      exact ⟨rfl, ow2, _, _, _, T, _, _, H1o, Nat.le_succ _, Nat.le_add_right _ _, HT.out.1, by have := HT.out.2.1; omega, by have := HT.out.2.2; omega⟩
    · go_wp2_with fail
      refine (fine_l w6).mono ?_
      rintro y w7 ⟨rfl, hB7⟩
      go_wp2_with fail
      go_ret
      have H1o := HL6.out.below hB7
      exact ⟨rfl, ow2, _, _, _, T, _, _, H1o, Nat.le_succ _, Nat.le_add_right _ _, HT.out.1, by have := HT.out.2.1; omega, by have := HT.out.2.2; omega⟩
end
end Go.Proofs.YticobikhndlejaaGreatDoor

/- The law: one step, whatever its kind (but for Drive). -/
namespace Go.Proofs.YticobikhndlejaaGreatDoor
open Go.RowKit Go.Shelf Go.Lib

section
variable {wb w : World} {wl : Nat} {ow : Nat → Lab} {qv bv iv : Value} {ps : List LP} {bs is : List Value}
/-- What holds after n steps. -/
def LI (wb w : World) (wl n : Nat) : Prop :=
  ∃ ow qv bv iv ps bs is, LB wb w wl ow qv bv iv ps bs is ∧ ps.length ≤ n ∧ bs.length ≤ n ∧ is.length ≤ 4 * n ∧ ∀ p ∈ ps, p.u = p.t ∧ p.t.Ok ∧ p.t.last ≤ n ∧ p.t.now ≤ n
theorem LI.below {wb w W : World} {wl n : Nat} (h : LI wb w wl n) (hb : Below w.heap.size w W) : LI wb W wl n := by
  obtain ⟨ow, qv, bv, iv, ps, bs, is, h, x⟩ := h
  exact ⟨ow, qv, bv, iv, ps, bs, is, h.below hb, x⟩
set_option maxRecDepth 100000 in
set_option maxHeartbeats 2000000 in
theorem step_new_no (h : LB wb w wl ow qv bv iv ps bs is) (A B C : Int) (S : ByteArray) (hA : A < 1 ∨ 4 < A) :
    Calls Tryz.prog 30 #[ptr wl, opV 1 A B C S] w fun y w' => y = .returned (.bool true) ∧ LB wb w' wl ow qv bv iv ps bs is := by
  obtain ⟨W0, hW0⟩ : ∃ W0, w.alloc (.cells #[.int .i64 1, .int .i64 A, .int .i64 B, .int .i64 C, .string S] 73) = W0 := ⟨_, rfl⟩
  have h0 : W0.heap[w.heap.size]? = some (.cells #[.int .i64 1, .int .i64 A, .int .i64 B, .int .i64 C, .string S] 73 (0, 0)) := by rw [← hW0]; exact World.alloc_heap_new _ _
  have hb0 : Below w.heap.size w W0 := by rw [← hW0]; exact (Below.refl _ _).alloc (Nat.le_refl _) _
  have hcon := opened_no_l (h.below hb0) 1 A B C S hA
  simp only [opV] at hcon
  have HCON := Lib.hid hcon
  have z0 : W0.cell? ⟨w.heap.size, 0, none⟩ = some (.int .i64 1) := cell_of h0 rfl
  have e0 := z0
  have e1 := cell_of (i := 1) h0 rfl
  have e2 := cell_of (i := 2) h0 rfl
  have e3 := cell_of (i := 3) h0 rfl
  have e4 := cell_of (i := 4) h0 rfl
  have HW0 := Lib.hid hW0
  clear h hW0 hb0 h0 hcon hA
  unfold opV
  go_enter Tryz.func30, Tryz.ntmps30
  go_upto_region 1 with fail
  rw [HW0.out]
  go_wp2_with fail
  refine HCON.out.mono ?_
  rintro y w4 ⟨rfl, h1⟩
  have H1 := Lib.hid h1
  clear h1
  go_wp2_with fail
  go_ret
  exact ⟨rfl, H1.out⟩
set_option maxRecDepth 100000 in
set_option maxHeartbeats 2000000 in
theorem step_new_l (h : LB wb w wl ow qv bv iv ps bs is) (hps : ps.length ≤ 1000000) (d : Nat) (B C : Int) (S : ByteArray) (hd : 1 ≤ d ∧ d ≤ 4) :
    Calls Tryz.prog 30 #[ptr wl, opV 1 d B C S] w fun y w' => ∃ ow' qv' x m, y = .returned (.bool true) ∧ LB wb w' wl ow' qv' bv iv (ps ++ [(⟨x, m, St.new d, St.new d⟩ : LP)]) bs is := by
  obtain ⟨W0, hW0⟩ : ∃ W0, w.alloc (.cells #[.int .i64 1, .int .i64 d, .int .i64 B, .int .i64 C, .string S] 73) = W0 := ⟨_, rfl⟩
  have h0 : W0.heap[w.heap.size]? = some (.cells #[.int .i64 1, .int .i64 d, .int .i64 B, .int .i64 C, .string S] 73 (0, 0)) := by rw [← hW0]; exact World.alloc_heap_new _ _
  have hb0 : Below w.heap.size w W0 := by rw [← hW0]; exact (Below.refl _ _).alloc (Nat.le_refl _) _
  have hcon := opened_l (h.below hb0) hps 1 B C d S hd
  simp only [opV] at hcon
  have HCON := Lib.hid hcon
  have z0 : W0.cell? ⟨w.heap.size, 0, none⟩ = some (.int .i64 1) := cell_of h0 rfl
  have e0 := z0
  have e1 := cell_of (i := 1) h0 rfl
  have e2 := cell_of (i := 2) h0 rfl
  have e3 := cell_of (i := 3) h0 rfl
  have e4 := cell_of (i := 4) h0 rfl
  have HW0 := Lib.hid hW0
  clear h hW0 hb0 h0 hcon hd
  unfold opV
  go_enter Tryz.func30, Tryz.ntmps30
  go_upto_region 1 with fail
  rw [HW0.out]
  go_wp2_with fail
  refine HCON.out.mono ?_
  rintro y w4 ⟨ow', qv', x, m, rfl, h1⟩
  have H1 := Lib.hid h1
  clear h1
  go_wp2_with fail
  go_ret
  exact ⟨ow', qv', x, m, rfl, H1.out⟩
set_option maxRecDepth 100000 in
set_option maxHeartbeats 2000000 in
theorem step_empty_l (h : LB wb w wl ow qv bv iv [] bs is) (K A B C : Int) (S : ByteArray) (hK : (K == 1) = false) :
    Calls Tryz.prog 30 #[ptr wl, opV K A B C S] w fun y w' => y = .returned (.bool true) ∧ LB wb w' wl ow qv bv iv [] bs is := by
  obtain ⟨W0, hW0⟩ : ∃ W0, w.alloc (.cells #[.int .i64 K, .int .i64 A, .int .i64 B, .int .i64 C, .string S] 73) = W0 := ⟨_, rfl⟩
  have h0 : W0.heap[w.heap.size]? = some (.cells #[.int .i64 K, .int .i64 A, .int .i64 B, .int .i64 C, .string S] 73 (0, 0)) := by rw [← hW0]; exact World.alloc_heap_new _ _
  have hb0 : Below w.heap.size w W0 := by rw [← hW0]; exact (Below.refl _ _).alloc (Nat.le_refl _) _
  have hL0 := h.below hb0
  obtain ⟨qa, qc, rfl⟩ := own_slice hL0.q
  have c0 : W0.cell? ⟨wl, 0, none⟩ = some (.slice qa 0 qc) := cell_of hL0.me rfl
  have z0 : W0.cell? ⟨w.heap.size, 0, none⟩ = some (.int .i64 K) := cell_of h0 rfl
  have HL := Lib.hid hL0
  have HW0 := Lib.hid hW0
  clear h hW0 hb0 h0 hL0
  unfold opV
  go_enter Tryz.func30, Tryz.ntmps30
  go_upto_region 1 with fail
  rw [HW0.out]
  go_wp2_with fail
  go_ret
  exact ⟨rfl, HL.out⟩
/-- One step, but for Drive. -/
theorem step_li {n : Nat} (h : LI wb w wl n) (hn : n ≤ 65536) (K A B C : Int) (S : ByteArray) (hK : K ≠ 12) (hA : -9223372036854775808 ≤ A ∧ A ≤ 9223372036854775807) (hS : S.size ≤ 65536) :
    Calls Tryz.prog 30 #[ptr wl, opV K A B C S] w fun y w' => y = .returned (.bool true) ∧ LI wb w' wl (n + 1) := by
  obtain ⟨ow, qv, bv, iv, ps, bs, is, h, h1, h2, h3, h4⟩ := h
  by_cases k1 : K = 1
  · subst k1
    by_cases hd : 1 ≤ A ∧ A ≤ 4
    · obtain ⟨d, rfl⟩ : ∃ d : Nat, A = d := ⟨A.toNat, by omega⟩
      refine (step_new_l h (by omega) d B C S (by omega)).mono ?_
      rintro y w' ⟨ow', qv', x, m, rfl, g⟩
      refine ⟨rfl, ow', qv', bv, iv, _, bs, is, g, by simpa using h1, by omega, by omega, fun p hp => ?_⟩
      rcases List.mem_append.1 hp with hp | hp
      · obtain ⟨a, b, c, d⟩ := h4 p hp
        exact ⟨a, b, by omega, by omega⟩
      · rw [List.mem_singleton.1 hp]
        exact ⟨rfl, ok_new (by omega), by simp only [St.new]; omega, by simp only [St.new]; omega⟩
    · refine (step_new_no h A B C S (by omega)).mono ?_
      rintro y w' ⟨rfl, g⟩
      exact ⟨rfl, ow, qv, bv, iv, ps, bs, is, g, by omega, by omega, by omega, fun p hp => by obtain ⟨a, b, c, d⟩ := h4 p hp; exact ⟨a, b, by omega, by omega⟩⟩
  · by_cases hz : ps = []
    · subst hz
      refine (step_empty_l h K A B C S (by simpa using k1)).mono ?_
      rintro y w' ⟨rfl, g⟩
      exact ⟨rfl, ow, qv, bv, iv, [], bs, is, g, by simp, by omega, by omega, by simp⟩
    · have hpl : 0 < (ps.length : Int) := by cases ps with | nil => exact absurd rfl hz | cons _ _ => simp
      obtain ⟨j, hj⟩ : ∃ j : Nat, pickJ A ps.length = j := ⟨(pickJ A ps.length).toNat, by have := (pickJ_lt A hpl).1; omega⟩
      have hjl : j < ps.length := by have := (pickJ_lt A hpl).2; omega
      obtain ⟨p, hp⟩ : ∃ p, ps[j]? = some p := ⟨ps[j], List.getElem?_eq_getElem hjl⟩
      obtain ⟨htu, hk, hla, hno⟩ := h4 p (List.mem_of_getElem? hp)
      have hsm : p.t.Small := ⟨by omega, by omega⟩
      have key : Calls Tryz.prog 30 #[ptr wl, opV K A B C S] w fun y w' => y = .returned (.bool true) ∧ StepP wb w' wl ps bs is j p := by
        by_cases k2 : K = 2
        · subst k2; exact step_read_l h (by omega) hp htu hk hsm A B C S hA hj
        by_cases k3 : K = 3
        · subst k3; exact step_write_l h (by omega) hp htu hk hsm A B C S hA hj (by omega)
        by_cases k4 : K = 4
        · subst k4; exact step_poll_l h (by omega) hp htu hk hsm A B C S hA hj (by omega)
        by_cases k5 : K = 5
        · subst k5; exact step_cancel_l h (by omega) hp htu hk hsm A B C S hA hj
        by_cases k6 : K = 6
        · subst k6; exact step_wait_l h (by omega) hp htu hk hsm A B C S hA hj (by omega)
        by_cases k7 : K = 7
        · subst k7; exact step_tick_l h (by omega) hp htu hk hsm A B C S hA hj
        by_cases k8 : K = 8
        · subst k8; exact step_disk_l h (by omega) hp htu hk hsm A B C S hA hj (by omega)
        by_cases k9 : K = 9
        · subst k9; exact step_step_l h (by omega) hp htu hk hsm A B C S hA hj (by omega)
        by_cases k10 : K = 10
        · subst k10; exact step_flown_l h (by omega) hp htu hk hsm A B C S hA hj (by omega)
        by_cases k11 : K = 11
        · subst k11; exact step_complete_l h (by omega) hp htu hk hsm A B C S hA hj
        by_cases k13 : K = 13
        · subst k13; exact step_crash_l h (by omega) hp htu hk hsm A B C S hA hj (by omega)
        exact step_other_l h (by omega) hp htu hk hsm A B C S hA hj K (by simpa using k1) (by simpa using k2) (by simpa using k3) (by simpa using k4) (by simpa using k5) (by simpa using k6) (by simpa using k7) (by simpa using k8) (by simpa using k9) (by simpa using k10) (by simpa using k11) (by simpa using hK) (by simpa using k13)
      refine key.mono ?_
      rintro y w' ⟨rfl, ow', qv', bv', iv', T, bs', is', g, hb, hi, hT, hTl, hTn⟩
      refine ⟨rfl, ow', qv', bv', iv', _, bs', is', g, by simpa using Nat.le_succ_of_le h1, by omega, by omega, fun p' hp' => ?_⟩
      rcases List.mem_or_eq_of_mem_set hp' with hp' | rfl
      · obtain ⟨a, b, c, d⟩ := h4 p' hp'
        exact ⟨a, b, by omega, by omega⟩
      · exact ⟨rfl, hT, by simp only; omega, by simp only; omega⟩
end
end Go.Proofs.YticobikhndlejaaGreatDoor

/- The law: small. -/
namespace Go.Proofs.YticobikhndlejaaGreatDoor
open Go.RowKit Go.Shelf Go.Lib

/-- One step of a script. -/
structure OpR where
  K : Int
  A : Int
  B : Int
  C : Int
  S : ByteArray
/-- Where a script lies. -/
def Scr (w : World) (bp : Option Addr) (ops : List OpR) : Prop :=
  ∀ (i : Nat) (o : OpR), ops[i]? = some o → ∃ sb so, bp = some ⟨sb, so, none⟩ ∧ w.cell? ⟨sb, so + i * 5, none⟩ = some (.int .i64 o.K) ∧ w.cell? ⟨sb, so + i * 5 + 1, none⟩ = some (.int .i64 o.A) ∧
    w.cell? ⟨sb, so + i * 5 + 2, none⟩ = some (.int .i64 o.B) ∧ w.cell? ⟨sb, so + i * 5 + 3, none⟩ = some (.int .i64 o.C) ∧ w.cell? ⟨sb, so + i * 5 + 4, none⟩ = some (.string o.S)
theorem Scr.below {w W : World} {bp : Option Addr} {ops : List OpR} (h : Scr w bp ops) (hb : Below w.heap.size w W) : Scr W bp ops := fun i o hi => by
  obtain ⟨sb, so, e, h0, h1, h2, h3, h4⟩ := h i o hi
  exact ⟨sb, so, e, cell_later hb h0, cell_later hb h1, cell_later hb h2, cell_later hb h3, cell_later hb h4⟩
set_option maxRecDepth 100000 in
theorem small_m (w : World) (bp : Option Addr) (cap : Nat) (ops : List OpR) (h : Scr w bp ops) (hS : ∀ o ∈ ops, o.S.size ≤ 1000000000000000) :
    Calls Tryz.prog 29 #[.slice bp ops.length cap] w fun y w' => w' = w ∧ ∃ r, y = .returned (.bool r) ∧ (r = true → ops.length ≤ 65536 ∧ ∀ o ∈ ops, o.S.size ≤ 65536) := by
  obtain ⟨n, hn⟩ : ∃ n, ops.length = n := ⟨_, rfl⟩
  rw [hn]
  have HSC := Lib.hid h
  have HS := Lib.hid hS
  have HN := Lib.hid hn
  clear h hS hn
  by_cases hbig : (65536 : Int) < n
  · go_enter Tryz.func29, Tryz.ntmps29
    go_wp2_with fail
    go_ret
    exact ⟨rfl, false, rfl, fun h => by cases h⟩
  · have hle : n ≤ 65536 := by omega
    go_enter Tryz.func29, Tryz.ntmps29
    go_wp2_with fail
    go_loopg [3, 4] n (fun k m i wr => ∃ (j m' : Nat), k = n - j ∧ j ≤ n ∧ m = .int .i64 m' ∧ m' ≤ 65536 ∧ i = .int .i64 j ∧ wr = w ∧ Hid (∀ i' o, i' < j → ops[i']? = some o → o.S.size ≤ 65536))
    case atStart => exact ⟨0, n, by simp, by omega, rfl, hle, rfl, rfl, Lib.hid fun i' o h => by omega⟩
    case round =>
      obtain ⟨j, m', rfl, hj, rfl, hm', rfl, rfl, HP⟩ := hrel
      by_cases hlt : j < n
      · have hltI : (j : Int) < (n : Int) := by omega
        have hj0 : (0 : Int) ≤ (j : Int) := by omega
        obtain ⟨o, ho⟩ : ∃ o, ops[j]? = some o := ⟨_, List.getElem?_eq_getElem (by rw [HN.out]; exact hlt)⟩
        obtain ⟨sb, so, rfl, _, _, _, _, z4⟩ := HSC.out j o ho
        obtain ⟨s, hs⟩ : ∃ s, o.S = s := ⟨_, rfl⟩
        rw [hs] at z4
        have hsz := HS.out o (List.mem_of_getElem? ho)
        rw [hs] at hsz
        have HO := Lib.hid (And.intro ho hs)
        clear ho hs
        have hw1 : IntKind.i64.wrap ((m' : Int) + (s.size : Int)) = ((m' + s.size : Nat) : Int) := by rw [IntKind.wrap_i64]; omega
        obtain ⟨m2, hm2⟩ : ∃ m2, m' + s.size = m2 := ⟨_, rfl⟩
        rw [hm2] at hw1
        by_cases hov : (65536 : Int) < m2
        · have HM2 := Lib.hid hm2
          clear hm2 hsz hm'
          go_wp2_with fail
          go_ret
          exact ⟨rfl, false, rfl, fun h => by cases h⟩
        · have hm3 : m2 ≤ 65536 := by omega
          have HM2 := Lib.hid (And.intro hm2 hm3)
          clear hm2 hsz hm' hm3
          go_wp2_with fail
          go_roundg (n - (j + 1))
          case measure => omega
          case rel =>
            exact ⟨j + 1, m2, rfl, by omega, rfl, HM2.out.2, by go_num, rfl, Lib.hid fun i' o' hi ho' => by
              by_cases h : i' = j
              · subst h
                rw [HO.out.1] at ho'
                cases ho'
                have := HM2.out
                rw [HO.out.2]
                omega
              · exact HP.out i' o' (by omega) ho'⟩
      · obtain rfl : j = n := by omega
        go_wp2_with fail
        go_ret
        refine ⟨rfl, true, rfl, fun _ => ⟨hle, fun o ho => ?_⟩⟩
        obtain ⟨i, hi, he⟩ := List.getElem_of_mem ho
        exact HP.out i o (by rw [← HN.out]; exact hi) (by rw [List.getElem?_eq_getElem hi, he])
end Go.Proofs.YticobikhndlejaaGreatDoor

/- The law: plays, where Drive is left out. -/
namespace Go.Proofs.YticobikhndlejaaGreatDoor
open Go.RowKit Go.Shelf Go.Lib

/-- Whose the blocks are when the script begins. -/
def ow0 (n k : Nat) : Lab := if k < n then Lab.glob else if k = n then .me else .loose
theorem LI.start {w : World} (he : ErrVar w) : LI w (w.alloc (.cells #[.slice none 0 0, .slice none 0 0, .slice none 0 0] 71)) w.heap.size 0 := by
  have h0 := lt_of_cell he
  have hb : Below w.heap.size w (w.alloc (.cells #[.slice none 0 0, .slice none 0 0, .slice none 0 0] 71)) := (Below.refl _ _).alloc (Nat.le_refl _) _
  exact ⟨ow0 w.heap.size, .slice none 0 0, .slice none 0 0, .slice none 0 0, [], [], [],
    { err := cell_later hb he
      glob := by simp only [ow0, if_pos h0]
      me := World.alloc_heap_new _ _
      own := by simp [ow0]
      q := World.ownsRow_nil _ _ _ _
      qo := fun k hk => by cases hk
      b := World.ownsRow_nil _ _ _ _
      bo := fun k hk => by cases hk
      i := World.ownsRow_nil _ _ _ _
      io := fun k hk => by cases hk
      br := fun j v hv => by simp at hv
      ir := fun j v hv => by simp at hv
      xs := fun j p hp => by simp at hp
      ms := fun j p hp => by simp at hp
      bel := hb
      old := fun k hk => by simp only [ow0, if_pos hk] }, by simp, by simp, by simp, by simp⟩
theorem LI.mono {wb w : World} {wl n m : Nat} (h : LI wb w wl n) (hm : n ≤ m) : LI wb w wl m := by
  obtain ⟨ow, qv, bv, iv, ps, bs, is, h, h1, h2, h3, h4⟩ := h
  exact ⟨ow, qv, bv, iv, ps, bs, is, h, by omega, by omega, by omega, fun p hp => by obtain ⟨a, b, c, d⟩ := h4 p hp; exact ⟨a, b, by omega, by omega⟩⟩
theorem LI.bel {wb w : World} {wl n : Nat} (h : LI wb w wl n) : Below wb.heap.size wb w := by
  obtain ⟨_, _, _, _, _, _, _, h, _⟩ := h
  exact h.bel
theorem looks_li {wb w : World} {wl n : Nat} (h : LI wb w wl n) (hn : n ≤ 100000) :
    Calls Tryz.prog 31 #[ptr wl] w fun y w' => y = .returned (.bool true) ∧ LI wb w' wl n := by
  obtain ⟨ow, qv, bv, iv, ps, bs, is, h, h1, h2, h3, h4⟩ := h
  refine (looks_l h (by omega) (by omega)).mono ?_
  rintro y w' ⟨rfl, hb⟩
  exact ⟨rfl, ow, qv, bv, iv, ps, bs, is, h.below hb, h1, h2, h3, h4⟩
set_option maxRecDepth 100000 in
set_option maxHeartbeats 2000000 in
theorem plays_m (w : World) (he : ErrVar w) (bp : Option Addr) (cap : Nat) (ops : List OpR) (h : Scr w bp ops) (hS : ∀ o ∈ ops, o.S.size ≤ 1000000000000000) (hA : ∀ o ∈ ops, -9223372036854775808 ≤ o.A ∧ o.A ≤ 9223372036854775807)
    (wv : Value) (xs : List Int) (b0 : Nat) (hw : w.ownsRow b0 3 1 wv xs.length (xs.map fun n => Value.int .i64 n)) (h12 : (12 : Int) ∈ xs) (hxs : xs.length ≤ 1000) :
    Calls Tryz.prog 11 #[.slice bp ops.length cap, wv] w fun y w' => y = .returned (.bool true) ∧ Below w.heap.size w w' := by
  obtain ⟨n, hn⟩ : ∃ n, ops.length = n := ⟨_, rfl⟩
  obtain ⟨nx, hnx⟩ : ∃ nx, xs.length = nx := ⟨_, rfl⟩
  obtain ⟨wa, wc, rfl⟩ := own_slice hw
  obtain ⟨W0, hW0⟩ : ∃ W0, w.alloc (.cells #[.slice none 0 0, .slice none 0 0, .slice none 0 0] 71) = W0 := ⟨_, rfl⟩
  have hL0 : LI w W0 w.heap.size 0 := by rw [← hW0]; exact LI.start he
  have hsm := small_m w bp cap ops h hS
  rw [hn] at hsm
  rw [hn]
  rw [hnx] at hw hxs
  have HSM := Lib.hid hsm
  have HSC := Lib.hid h
  have HAS := Lib.hid (And.intro hA h12)
  have HR := Lib.hid hw
  have HW0 := Lib.hid hW0
  have HL0 := Lib.hid hL0
  have HN := Lib.hid hn
  have HNX := Lib.hid hnx
  have HE := Lib.hid he
  rw [hnx]
  clear he h hS hA hw h12 hW0 hL0 hsm hn hnx
  go_enter Tryz.func11, Tryz.ntmps11
  go_wp2_with fail
  refine HSM.out.mono ?_
  rintro y w1 ⟨rfl, r, rfl, hr⟩
  cases r with
  | false =>
    go_wp2_with fail
    go_ret
    exact ⟨rfl, Below.refl _ _⟩
  | true =>
    obtain ⟨hn1, hSz⟩ := hr rfl
    have HSZ := Lib.hid hSz
    clear hr hSz
    go_wp2_with fail
    rw [HW0.out]
    go_loopg [7] n (fun k i wr => ∃ (j : Nat), k = n - j ∧ j ≤ n ∧ i = .int .i64 j ∧ Hid (LI w1 wr w1.heap.size j))
    case atStart => exact ⟨0, by simp, by omega, rfl, HL0⟩
    case round =>
      obtain ⟨j, rfl, hj, rfl, HL⟩ := hrel
      by_cases hlt : j < n
      · have hltI : (j : Int) < (n : Int) := by omega
        have hj0 : (0 : Int) ≤ (j : Int) := by omega
        obtain ⟨o, ho⟩ : ∃ o, ops[j]? = some o := ⟨_, List.getElem?_eq_getElem (by rw [HN.out]; exact hlt)⟩
        obtain ⟨sb, so, rfl, z0, z1, z2, z3, z4⟩ := (HSC.out.below HL.out.bel) j o ho
        obtain ⟨K, A, B, C, S⟩ := o
        simp only at z0 z1 z2 z3 z4
        have HO := Lib.hid ho
        have HR1 := Lib.hid (ownsRow_chg HR.out (chgB HL.out.bel fun _ => False) fun _ _ z => z)
        clear ho
        go_wp2_with fail
        go_loopg [8, 9] nx (fun kk bv jv wx => ∃ (j2 : Nat), kk = nx - j2 ∧ j2 ≤ nx ∧ bv = .bool ((xs.take j2).all fun x => K != x) ∧ jv = .int .i64 j2 ∧ Hid (Below wr.heap.size wr wx))
        case atStart => exact ⟨0, by simp, by omega, rfl, rfl, Lib.hid (Below.refl _ _)⟩
        case round =>
          obtain ⟨j2, rfl, hj2, rfl, rfl, HB⟩ := hrel
          replace z0 := cell_later HB.out z0
          replace z1 := cell_later HB.out z1
          replace z2 := cell_later HB.out z2
          replace z3 := cell_later HB.out z3
          replace z4 := cell_later HB.out z4
          have HR2 := Lib.hid (ownsRow_chg HR1.out (chgB HB.out fun _ => False) fun _ _ z => z)
          obtain ⟨bi, hbi⟩ : ∃ bi, ((xs.take j2).all fun x => K != x) = bi := ⟨_, rfl⟩
          by_cases hlt2 : j2 < nx
          · have hltI2 : (j2 : Int) < (nx : Int) := by omega
            have hj20 : (0 : Int) ≤ (j2 : Int) := by omega
            obtain ⟨x, hx⟩ : ∃ x, xs[j2]? = some x := ⟨_, List.getElem?_eq_getElem (by rw [HNX.out]; exact hlt2)⟩
            obtain ⟨gw, rfl, _, _, y0⟩ := row_at HR2.out (j := j2) (x := .int .i64 x) (by rw [List.getElem?_map, hx]; rfl) (by simp [HNX.out])
            have hnext : ((xs.take (j2 + 1)).all fun x => K != x) = (bi && K != x) := by rw [List.take_add_one, hx]; simp [hbi]
            have HNE := Lib.hid hnext
            rw [hbi]
            cases bi with
            | true =>
              clear hbi hnext hx
              go_wp2_with fail
              go_quiet (fail)
              go_wp2_with fail
              go_roundg (nx - (j2 + 1))
              case measure => omega
              case rel => exact ⟨j2 + 1, rfl, by omega, by rw [HNE.out]; rfl, by go_num, Lib.hid ⟨HB.out.os, HB.out.tape, HB.out.output, HB.out.size, HB.out.block⟩⟩
            | false =>
              clear hbi hnext hx
              go_wp2_with fail
              go_quiet (fail)
              go_wp2_with fail
              go_roundg (nx - (j2 + 1))
              case measure => omega
              case rel => exact ⟨j2 + 1, rfl, by omega, by rw [HNE.out]; rfl, by go_num, Lib.hid ⟨HB.out.os, HB.out.tape, HB.out.output, HB.out.size, HB.out.block⟩⟩
          · obtain rfl : j2 = nx := by omega
            have hL2 := HL.out.below HB.out
            cases bi with
            | false =>
              rw [hbi]
              clear hbi
              have HL2 := Lib.hid hL2
              clear hL2
              go_wp2_with fail
              go_roundg (n - (j + 1))
              case measure => omega
              case rel => exact ⟨j + 1, rfl, by omega, by go_num, Lib.hid (HL2.out.mono (Nat.le_succ _))⟩
            | true =>
              have hK : K ≠ 12 := fun e => by
                subst e
                rw [← HNX.out, List.take_length, List.all_eq_true] at hbi
                simpa using hbi 12 HAS.out.2
              have hAo := HAS.out.1 _ (List.mem_of_getElem? HO.out)
              have hSo := HSZ.out _ (List.mem_of_getElem? HO.out)
              have HST := Lib.hid (step_li hL2 (by omega) K A B C S hK hAo hSo)
              rw [hbi]
              clear hbi hL2 hK hAo hSo
              simp only [opV] at HST
              go_wp2_with fail
              refine HST.out.mono ?_
              rintro y w4 ⟨rfl, h1⟩
              have HLK := Lib.hid (looks_li h1 (by omega))
              clear h1
              go_wp2_with fail
              refine HLK.out.mono ?_
              rintro y w5 ⟨rfl, h1⟩
              have H5 := Lib.hid h1
              clear h1
              go_wp2_with fail
              go_roundg (n - (j + 1))
              case measure => omega
              case rel => exact ⟨j + 1, rfl, by omega, by go_num, H5⟩
      · obtain rfl : j = n := by omega
        go_wp2_with fail
        go_ret
        exact ⟨rfl, HL.out.bel⟩
end Go.Proofs.YticobikhndlejaaGreatDoor
