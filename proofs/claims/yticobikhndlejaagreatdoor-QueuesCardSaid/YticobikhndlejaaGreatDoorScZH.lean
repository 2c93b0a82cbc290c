/- The law: one step, told by kinds (2). Printed by gen_lawW.py. -/
import Derived.Test.YticobikhndlejaaGreatDoorScZG
namespace Go.Proofs.YticobikhndlejaaGreatDoor
open Go.RowKit Go.Shelf Go.Lib

section
variable {wb w : World} {wl : Nat} {ow : Nat → Lab} {qv bv iv : Value} {ps : List LP} {bs is : List Value}
set_option maxRecDepth 100000 in
set_option maxHeartbeats 4000000 in
theorem step_read_l (h : LB wb w wl ow qv bv iv ps bs is) (hps : ps.length ≤ 1000000) {j : Nat} {p : LP} (hp : ps[j]? = some p) (htu : p.u = p.t) (hk : p.t.Ok) (hsm : p.t.Small) (A B C : Int) (S : ByteArray) (hA : -9223372036854775808 ≤ A ∧ A ≤ 9223372036854775807) (hj : pickJ A ps.length = j) :
    Calls Tryz.prog 30 #[ptr wl, opV 2 A B C S] w fun y w' => y = .returned (.bool true) ∧ StepP wb w' wl ps bs is j p := by
  obtain ⟨ow, h, _, hlo⟩ := h.norm
  obtain ⟨W0, hW0⟩ : ∃ W0, w.alloc (.cells #[.int .i64 2, .int .i64 A, .int .i64 B, .int .i64 C, .string S] 73) = W0 := ⟨_, rfl⟩
  have h0 : W0.heap[w.heap.size]? = some (.cells #[.int .i64 2, .int .i64 A, .int .i64 B, .int .i64 C, .string S] 73 (0, 0)) := by rw [← hW0]; exact World.alloc_heap_new _ _
  have hb0 : Below w.heap.size w W0 := by rw [← hW0]; exact (Below.refl _ _).alloc (Nat.le_refl _) _
  have hL0 := h.below hb0
  have hjl := (List.getElem?_eq_some_iff.1 hp).1
  obtain ⟨px, hpx⟩ : ∃ px, p.x = px := ⟨_, rfl⟩
  obtain ⟨pm, hpm⟩ : ∃ pm, p.m = pm := ⟨_, rfl⟩
  obtain ⟨gq, qc, rfl, hgq, c1, c2⟩ := pair_cells hL0.q hp
  rw [hpx] at c1
  rw [hpm] at c2
  obtain ⟨np, hnp⟩ : ∃ np, ps.length = np := ⟨_, rfl⟩
  have c0 : W0.cell? ⟨wl, 0, none⟩ = some (.slice (some ⟨gq, 0, none⟩) np qc) := by rw [← hnp]; exact cell_of hL0.me rfl
  have hjl2 := hjl
  rw [hnp] at hjl2 hps hj
  have hnz : ((np : Int) == 0) = false := by simp; omega
  have hjI : (j : Int) < (np : Int) := by omega
  have hj0 : (0 : Int) ≤ (j : Int) := by omega
  have hnp1 : (0 : Int) < (np : Int) ∧ (np : Int) ≤ 1000000 := by omega
  have z0 : W0.cell? ⟨w.heap.size, 0, none⟩ = some (.int .i64 2) := cell_of h0 rfl
  have z1 : W0.cell? ⟨w.heap.size, 1, none⟩ = some (.int .i64 A) := cell_of h0 rfl
  have HL := Lib.hid hL0
  have HP := Lib.hid (And.intro hp (And.intro htu (And.intro hk hsm)))
  have HW0 := Lib.hid hW0
  have HH0 := Lib.hid h0
  have HNP := Lib.hid hnp
  have HPX := Lib.hid (And.intro hpx hpm)
  have HLO := Lib.hid (And.intro hlo hb0.size)
  have HPK := Lib.hid (fun W => by have := pick_l A np W hA hnp1; rw [hj] at this; exact this)
  clear h hp htu hk hsm hW0 hb0 h0 hL0 hpx hpm hnp hj hnp1 hA hjl hjl2 hlo
  unfold opV
  go_enter Tryz.func30, Tryz.ntmps30
  go_upto_region 1 with fail
  rw [HW0.out]
  go_upto_region 5 with fail
  go_cut [5] from 20 to 33 (fun s5 wx => ∃ b, s5 = ptr b ∧ Hid (Below W0.heap.size W0 wx ∧ wx.heap[b]? = some (.cells #[ptr px, ptr pm] 114 (0, 0)) ∧ W0.heap.size ≤ b))
  case first =>
    go_region_held3 (fun w' => w'.cell? ⟨wl, 0, none⟩ = some (.slice (some ⟨gq, 0, none⟩) np qc) ∧ w'.cell? ⟨w.heap.size, 1, none⟩ = some (.int .i64 A) ∧ w'.cell? ⟨gq, j * 2, none⟩ = some (ptr px) ∧ w'.cell? ⟨gq, j * 2 + 1, none⟩ = some (ptr pm)) (go_keep)
      (first
        | (go_at_call 50; refine (HPK.out _).mono ?_; rintro y w2 ⟨rfl, rfl⟩))
    all_goals
      go_wp2_with fail
      go_meet
      case rel => exact ⟨_, rfl, Lib.hid ⟨((Below.refl _ _).alloc (Nat.le_refl _) _).drew, World.alloc_heap_new W0 _, Nat.le_refl _⟩⟩
  case rest =>
    obtain ⟨b, rfl, hB⟩ := hcut
    have hop := (hB.out.1.block _ (lt_of_heap HH0.out)).trans HH0.out
    have e0 := cell_of (i := 0) hop rfl
    have e1 := cell_of (i := 1) hop rfl
    have e2 := cell_of (i := 2) hop rfl
    have e3 := cell_of (i := 3) hop rfl
    have e4 := cell_of (i := 4) hop rfl
    have f0 := cell_of (i := 0) hB.out.2.1 rfl
    have f1 := cell_of (i := 1) hB.out.2.1 rfl
    have hL := HL.out.below hB.out.1
    have hcon := asked_read_l hL HP.out.1 HP.out.2.1 HP.out.2.2.1 HP.out.2.2.2 B A C S
    simp only [opV, HPX.out.1, HPX.out.2] at hcon
    have HCON := Lib.hid hcon
    clear hop hL hcon z0 z1 c0 c1 c2
    go_wp2_with fail
    refine HCON.out.mono ?_
    rintro y w4 ⟨ow', T, rfl, h1, h2, h3, h4⟩
    have H1 := Lib.hid h1
    clear h1
    go_wp2_with fail
    go_ret
    have H1o := H1.out
    try rw [← HPX.out.1, ← HPX.out.2] at H1o
    exact ⟨rfl, ow', _, _, _, T, _, _, H1o, Nat.le_succ _, Nat.le_add_right _ _, h2, h3, by omega⟩
set_option maxRecDepth 100000 in
set_option maxHeartbeats 4000000 in
theorem step_write_l (h : LB wb w wl ow qv bv iv ps bs is) (hps : ps.length ≤ 1000000) {j : Nat} {p : LP} (hp : ps[j]? = some p) (htu : p.u = p.t) (hk : p.t.Ok) (hsm : p.t.Small) (A B C : Int) (S : ByteArray) (hA : -9223372036854775808 ≤ A ∧ A ≤ 9223372036854775807) (hj : pickJ A ps.length = j) (hS : S.size ≤ 1000000) :
    Calls Tryz.prog 30 #[ptr wl, opV 3 A B C S] w fun y w' => y = .returned (.bool true) ∧ StepP wb w' wl ps bs is j p := by
  obtain ⟨ow, h, _, hlo⟩ := h.norm
  obtain ⟨W0, hW0⟩ : ∃ W0, w.alloc (.cells #[.int .i64 3, .int .i64 A, .int .i64 B, .int .i64 C, .string S] 73) = W0 := ⟨_, rfl⟩
  have h0 : W0.heap[w.heap.size]? = some (.cells #[.int .i64 3, .int .i64 A, .int .i64 B, .int .i64 C, .string S] 73 (0, 0)) := by rw [← hW0]; exact World.alloc_heap_new _ _
  have hb0 : Below w.heap.size w W0 := by rw [← hW0]; exact (Below.refl _ _).alloc (Nat.le_refl _) _
  have hL0 := h.below hb0
  have hjl := (List.getElem?_eq_some_iff.1 hp).1
  obtain ⟨px, hpx⟩ : ∃ px, p.x = px := ⟨_, rfl⟩
  obtain ⟨pm, hpm⟩ : ∃ pm, p.m = pm := ⟨_, rfl⟩
  obtain ⟨gq, qc, rfl, hgq, c1, c2⟩ := pair_cells hL0.q hp
  rw [hpx] at c1
  rw [hpm] at c2
  obtain ⟨np, hnp⟩ : ∃ np, ps.length = np := ⟨_, rfl⟩
  have c0 : W0.cell? ⟨wl, 0, none⟩ = some (.slice (some ⟨gq, 0, none⟩) np qc) := by rw [← hnp]; exact cell_of hL0.me rfl
  have hjl2 := hjl
  rw [hnp] at hjl2 hps hj
  have hnz : ((np : Int) == 0) = false := by simp; omega
  have hjI : (j : Int) < (np : Int) := by omega
  have hj0 : (0 : Int) ≤ (j : Int) := by omega
  have hnp1 : (0 : Int) < (np : Int) ∧ (np : Int) ≤ 1000000 := by omega
  have z0 : W0.cell? ⟨w.heap.size, 0, none⟩ = some (.int .i64 3) := cell_of h0 rfl
  have z1 : W0.cell? ⟨w.heap.size, 1, none⟩ = some (.int .i64 A) := cell_of h0 rfl
  have HL := Lib.hid hL0
  have HP := Lib.hid (And.intro hp (And.intro htu (And.intro hk hsm)))
  have HW0 := Lib.hid hW0
  have HH0 := Lib.hid h0
  have HNP := Lib.hid hnp
  have HPX := Lib.hid (And.intro hpx hpm)
  have HLO := Lib.hid (And.intro hlo hb0.size)
  have HPK := Lib.hid (fun W => by have := pick_l A np W hA hnp1; rw [hj] at this; exact this)
  clear h hp htu hk hsm hW0 hb0 h0 hL0 hpx hpm hnp hj hnp1 hA hjl hjl2 hlo
  unfold opV
  go_enter Tryz.func30, Tryz.ntmps30
  go_upto_region 1 with fail
  rw [HW0.out]
  go_upto_region 5 with fail
  go_cut [5] from 20 to 33 (fun s5 wx => ∃ b, s5 = ptr b ∧ Hid (Below W0.heap.size W0 wx ∧ wx.heap[b]? = some (.cells #[ptr px, ptr pm] 114 (0, 0)) ∧ W0.heap.size ≤ b))
  case first =>
    go_region_held3 (fun w' => w'.cell? ⟨wl, 0, none⟩ = some (.slice (some ⟨gq, 0, none⟩) np qc) ∧ w'.cell? ⟨w.heap.size, 1, none⟩ = some (.int .i64 A) ∧ w'.cell? ⟨gq, j * 2, none⟩ = some (ptr px) ∧ w'.cell? ⟨gq, j * 2 + 1, none⟩ = some (ptr pm)) (go_keep)
      (first
        | (go_at_call 50; refine (HPK.out _).mono ?_; rintro y w2 ⟨rfl, rfl⟩))
    all_goals
      go_wp2_with fail
      go_meet
      case rel => exact ⟨_, rfl, Lib.hid ⟨((Below.refl _ _).alloc (Nat.le_refl _) _).drew, World.alloc_heap_new W0 _, Nat.le_refl _⟩⟩
  case rest =>
    obtain ⟨b, rfl, hB⟩ := hcut
    have hop := (hB.out.1.block _ (lt_of_heap HH0.out)).trans HH0.out
    have e0 := cell_of (i := 0) hop rfl
    have e1 := cell_of (i := 1) hop rfl
    have e2 := cell_of (i := 2) hop rfl
    have e3 := cell_of (i := 3) hop rfl
    have e4 := cell_of (i := 4) hop rfl
    have f0 := cell_of (i := 0) hB.out.2.1 rfl
    have f1 := cell_of (i := 1) hB.out.2.1 rfl
    have hL := HL.out.below hB.out.1
    have hcon := asked_write_l hL HP.out.1 HP.out.2.1 HP.out.2.2.1 HP.out.2.2.2 B A C S hS
    simp only [opV, HPX.out.1, HPX.out.2] at hcon
    have HCON := Lib.hid hcon
    clear hop hL hcon z0 z1 c0 c1 c2
    go_wp2_with fail
    refine HCON.out.mono ?_
    rintro y w4 ⟨ow', T, rfl, h1, h2, h3, h4⟩
    have H1 := Lib.hid h1
    clear h1
    go_wp2_with fail
    go_ret
    have H1o := H1.out
    try rw [← HPX.out.1, ← HPX.out.2] at H1o
    exact ⟨rfl, ow', _, _, _, T, _, _, H1o, Nat.le_succ _, Nat.le_add_right _ _, h2, h3, by omega⟩
set_option maxRecDepth 100000 in
set_option maxHeartbeats 4000000 in
theorem step_poll_l (h : LB wb w wl ow qv bv iv ps bs is) (hps : ps.length ≤ 1000000) {j : Nat} {p : LP} (hp : ps[j]? = some p) (htu : p.u = p.t) (hk : p.t.Ok) (hsm : p.t.Small) (A B C : Int) (S : ByteArray) (hA : -9223372036854775808 ≤ A ∧ A ≤ 9223372036854775807) (hj : pickJ A ps.length = j) (hbl : bs.length ≤ 1000000) :
    Calls Tryz.prog 30 #[ptr wl, opV 4 A B C S] w fun y w' => y = .returned (.bool true) ∧ StepP wb w' wl ps bs is j p := by
  obtain ⟨ow, h, _, hlo⟩ := h.norm
  obtain ⟨W0, hW0⟩ : ∃ W0, w.alloc (.cells #[.int .i64 4, .int .i64 A, .int .i64 B, .int .i64 C, .string S] 73) = W0 := ⟨_, rfl⟩
  have h0 : W0.heap[w.heap.size]? = some (.cells #[.int .i64 4, .int .i64 A, .int .i64 B, .int .i64 C, .string S] 73 (0, 0)) := by rw [← hW0]; exact World.alloc_heap_new _ _
  have hb0 : Below w.heap.size w W0 := by rw [← hW0]; exact (Below.refl _ _).alloc (Nat.le_refl _) _
  have hL0 := h.below hb0
  have hjl := (List.getElem?_eq_some_iff.1 hp).1
  obtain ⟨px, hpx⟩ : ∃ px, p.x = px := ⟨_, rfl⟩
  obtain ⟨pm, hpm⟩ : ∃ pm, p.m = pm := ⟨_, rfl⟩
  obtain ⟨gq, qc, rfl, hgq, c1, c2⟩ := pair_cells hL0.q hp
  rw [hpx] at c1
  rw [hpm] at c2
  obtain ⟨np, hnp⟩ : ∃ np, ps.length = np := ⟨_, rfl⟩
  have c0 : W0.cell? ⟨wl, 0, none⟩ = some (.slice (some ⟨gq, 0, none⟩) np qc) := by rw [← hnp]; exact cell_of hL0.me rfl
  have hjl2 := hjl
  rw [hnp] at hjl2 hps hj
  have hnz : ((np : Int) == 0) = false := by simp; omega
  have hjI : (j : Int) < (np : Int) := by omega
  have hj0 : (0 : Int) ≤ (j : Int) := by omega
  have hnp1 : (0 : Int) < (np : Int) ∧ (np : Int) ≤ 1000000 := by omega
  have z0 : W0.cell? ⟨w.heap.size, 0, none⟩ = some (.int .i64 4) := cell_of h0 rfl
  have z1 : W0.cell? ⟨w.heap.size, 1, none⟩ = some (.int .i64 A) := cell_of h0 rfl
  have HL := Lib.hid hL0
  have HP := Lib.hid (And.intro hp (And.intro htu (And.intro hk hsm)))
  have HW0 := Lib.hid hW0
  have HH0 := Lib.hid h0
  have HNP := Lib.hid hnp
  have HPX := Lib.hid (And.intro hpx hpm)
  have HLO := Lib.hid (And.intro hlo hb0.size)
  have HPK := Lib.hid (fun W => by have := pick_l A np W hA hnp1; rw [hj] at this; exact this)
  clear h hp htu hk hsm hW0 hb0 h0 hL0 hpx hpm hnp hj hnp1 hA hjl hjl2 hlo
  unfold opV
  go_enter Tryz.func30, Tryz.ntmps30
  go_upto_region 1 with fail
  rw [HW0.out]
  go_upto_region 5 with fail
  go_cut [5] from 20 to 33 (fun s5 wx => ∃ b, s5 = ptr b ∧ Hid (Below W0.heap.size W0 wx ∧ wx.heap[b]? = some (.cells #[ptr px, ptr pm] 114 (0, 0)) ∧ W0.heap.size ≤ b))
  case first =>
    go_region_held3 (fun w' => w'.cell? ⟨wl, 0, none⟩ = some (.slice (some ⟨gq, 0, none⟩) np qc) ∧ w'.cell? ⟨w.heap.size, 1, none⟩ = some (.int .i64 A) ∧ w'.cell? ⟨gq, j * 2, none⟩ = some (ptr px) ∧ w'.cell? ⟨gq, j * 2 + 1, none⟩ = some (ptr pm)) (go_keep)
      (first
        | (go_at_call 50; refine (HPK.out _).mono ?_; rintro y w2 ⟨rfl, rfl⟩))
    all_goals
      go_wp2_with fail
      go_meet
      case rel => exact ⟨_, rfl, Lib.hid ⟨((Below.refl _ _).alloc (Nat.le_refl _) _).drew, World.alloc_heap_new W0 _, Nat.le_refl _⟩⟩
  case rest =>
    obtain ⟨b, rfl, hB⟩ := hcut
    have hop := (hB.out.1.block _ (lt_of_heap HH0.out)).trans HH0.out
    have e0 := cell_of (i := 0) hop rfl
    have e1 := cell_of (i := 1) hop rfl
    have e2 := cell_of (i := 2) hop rfl
    have e3 := cell_of (i := 3) hop rfl
    have e4 := cell_of (i := 4) hop rfl
    have f0 := cell_of (i := 0) hB.out.2.1 rfl
    have f1 := cell_of (i := 1) hB.out.2.1 rfl
    have hL := HL.out.below hB.out.1
    have hcon := polled_l hL hbl HP.out.1 HP.out.2.1 HP.out.2.2.1 HP.out.2.2.2 B
    simp only [opV, HPX.out.1, HPX.out.2] at hcon
    have HCON := Lib.hid hcon
    clear hop hL hcon z0 z1 c0 c1 c2
    go_wp2_with fail
    refine HCON.out.mono ?_
    rintro y w4 ⟨ow', T, bv', bs', rfl, h1, hb', h2, h3, h4⟩
    have H1 := Lib.hid h1
    clear h1
    go_wp2_with fail
    go_ret
    have H1o := H1.out
    try rw [← HPX.out.1, ← HPX.out.2] at H1o
    exact ⟨rfl, ow', _, _, _, T, _, _, H1o, hb', Nat.le_add_right _ _, h2, by omega, by omega⟩
end
end Go.Proofs.YticobikhndlejaaGreatDoor

/- The law: one step, told by kinds (3). Printed by gen_lawW.py. -/
namespace Go.Proofs.YticobikhndlejaaGreatDoor
open Go.RowKit Go.Shelf Go.Lib

section
variable {wb w : World} {wl : Nat} {ow : Nat → Lab} {qv bv iv : Value} {ps : List LP} {bs is : List Value}
set_option maxRecDepth 100000 in
set_option maxHeartbeats 4000000 in
theorem step_cancel_l (h : LB wb w wl ow qv bv iv ps bs is) (hps : ps.length ≤ 1000000) {j : Nat} {p : LP} (hp : ps[j]? = some p) (htu : p.u = p.t) (hk : p.t.Ok) (hsm : p.t.Small) (A B C : Int) (S : ByteArray) (hA : -9223372036854775808 ≤ A ∧ A ≤ 9223372036854775807) (hj : pickJ A ps.length = j) :
    Calls Tryz.prog 30 #[ptr wl, opV 5 A B C S] w fun y w' => y = .returned (.bool true) ∧ StepP wb w' wl ps bs is j p := by
  obtain ⟨ow, h, _, hlo⟩ := h.norm
  obtain ⟨W0, hW0⟩ : ∃ W0, w.alloc (.cells #[.int .i64 5, .int .i64 A, .int .i64 B, .int .i64 C, .string S] 73) = W0 := ⟨_, rfl⟩
  have h0 : W0.heap[w.heap.size]? = some (.cells #[.int .i64 5, .int .i64 A, .int .i64 B, .int .i64 C, .string S] 73 (0, 0)) := by rw [← hW0]; exact World.alloc_heap_new _ _
  have hb0 : Below w.heap.size w W0 := by rw [← hW0]; exact (Below.refl _ _).alloc (Nat.le_refl _) _
  have hL0 := h.below hb0
  have hjl := (List.getElem?_eq_some_iff.1 hp).1
  obtain ⟨px, hpx⟩ : ∃ px, p.x = px := ⟨_, rfl⟩
  obtain ⟨pm, hpm⟩ : ∃ pm, p.m = pm := ⟨_, rfl⟩
  obtain ⟨gq, qc, rfl, hgq, c1, c2⟩ := pair_cells hL0.q hp
  rw [hpx] at c1
  rw [hpm] at c2
  obtain ⟨np, hnp⟩ : ∃ np, ps.length = np := ⟨_, rfl⟩
  have c0 : W0.cell? ⟨wl, 0, none⟩ = some (.slice (some ⟨gq, 0, none⟩) np qc) := by rw [← hnp]; exact cell_of hL0.me rfl
  have hjl2 := hjl
  rw [hnp] at hjl2 hps hj
  have hnz : ((np : Int) == 0) = false := by simp; omega
  have hjI : (j : Int) < (np : Int) := by omega
  have hj0 : (0 : Int) ≤ (j : Int) := by omega
  have hnp1 : (0 : Int) < (np : Int) ∧ (np : Int) ≤ 1000000 := by omega
  have z0 : W0.cell? ⟨w.heap.size, 0, none⟩ = some (.int .i64 5) := cell_of h0 rfl
  have z1 : W0.cell? ⟨w.heap.size, 1, none⟩ = some (.int .i64 A) := cell_of h0 rfl
  have HL := Lib.hid hL0
  have HP := Lib.hid (And.intro hp (And.intro htu (And.intro hk hsm)))
  have HW0 := Lib.hid hW0
  have HH0 := Lib.hid h0
  have HNP := Lib.hid hnp
  have HPX := Lib.hid (And.intro hpx hpm)
  have HLO := Lib.hid (And.intro hlo hb0.size)
  have HPK := Lib.hid (fun W => by have := pick_l A np W hA hnp1; rw [hj] at this; exact this)
  clear h hp htu hk hsm hW0 hb0 h0 hL0 hpx hpm hnp hj hnp1 hA hjl hjl2 hlo
  unfold opV
  go_enter Tryz.func30, Tryz.ntmps30
  go_upto_region 1 with fail
  rw [HW0.out]
  go_upto_region 5 with fail
  go_cut [5] from 20 to 33 (fun s5 wx => ∃ b, s5 = ptr b ∧ Hid (Below W0.heap.size W0 wx ∧ wx.heap[b]? = some (.cells #[ptr px, ptr pm] 114 (0, 0)) ∧ W0.heap.size ≤ b))
  case first =>
    go_region_held3 (fun w' => w'.cell? ⟨wl, 0, none⟩ = some (.slice (some ⟨gq, 0, none⟩) np qc) ∧ w'.cell? ⟨w.heap.size, 1, none⟩ = some (.int .i64 A) ∧ w'.cell? ⟨gq, j * 2, none⟩ = some (ptr px) ∧ w'.cell? ⟨gq, j * 2 + 1, none⟩ = some (ptr pm)) (go_keep)
      (first
        | (go_at_call 50; refine (HPK.out _).mono ?_; rintro y w2 ⟨rfl, rfl⟩))
    all_goals
      go_wp2_with fail
      go_meet
      case rel => exact ⟨_, rfl, Lib.hid ⟨((Below.refl _ _).alloc (Nat.le_refl _) _).drew, World.alloc_heap_new W0 _, Nat.le_refl _⟩⟩
  case rest =>
    obtain ⟨b, rfl, hB⟩ := hcut
    have hop := (hB.out.1.block _ (lt_of_heap HH0.out)).trans HH0.out
    have e0 := cell_of (i := 0) hop rfl
    have e1 := cell_of (i := 1) hop rfl
    have e2 := cell_of (i := 2) hop rfl
    have e3 := cell_of (i := 3) hop rfl
    have e4 := cell_of (i := 4) hop rfl
    have f0 := cell_of (i := 0) hB.out.2.1 rfl
    have f1 := cell_of (i := 1) hB.out.2.1 rfl
    have hL := HL.out.below hB.out.1
    have hcon := cancelled_l hL HP.out.1 HP.out.2.1 HP.out.2.2.1 HP.out.2.2.2 B
    simp only [opV, HPX.out.1, HPX.out.2] at hcon
    have HCON := Lib.hid hcon
    clear hop hL hcon z0 z1 c0 c1 c2
    go_wp2_with fail
    refine HCON.out.mono ?_
    rintro y w4 ⟨ow', T, rfl, h1, h2, h3, h4⟩
    have H1 := Lib.hid h1
    clear h1
    go_wp2_with fail
    go_ret
    have H1o := H1.out
    try rw [← HPX.out.1, ← HPX.out.2] at H1o
    exact ⟨rfl, ow', _, _, _, T, _, _, H1o, Nat.le_succ _, Nat.le_add_right _ _, h2, by omega, by omega⟩
set_option maxRecDepth 100000 in
set_option maxHeartbeats 4000000 in
theorem step_flown_l (h : LB wb w wl ow qv bv iv ps bs is) (hps : ps.length ≤ 1000000) {j : Nat} {p : LP} (hp : ps[j]? = some p) (htu : p.u = p.t) (hk : p.t.Ok) (hsm : p.t.Small) (A B C : Int) (S : ByteArray) (hA : -9223372036854775808 ≤ A ∧ A ≤ 9223372036854775807) (hj : pickJ A ps.length = j) (hil : is.length ≤ 900000) :
    Calls Tryz.prog 30 #[ptr wl, opV 10 A B C S] w fun y w' => y = .returned (.bool true) ∧ StepP wb w' wl ps bs is j p := by
  obtain ⟨ow, h, _, hlo⟩ := h.norm
  obtain ⟨W0, hW0⟩ : ∃ W0, w.alloc (.cells #[.int .i64 10, .int .i64 A, .int .i64 B, .int .i64 C, .string S] 73) = W0 := ⟨_, rfl⟩
  have h0 : W0.heap[w.heap.size]? = some (.cells #[.int .i64 10, .int .i64 A, .int .i64 B, .int .i64 C, .string S] 73 (0, 0)) := by rw [← hW0]; exact World.alloc_heap_new _ _
  have hb0 : Below w.heap.size w W0 := by rw [← hW0]; exact (Below.refl _ _).alloc (Nat.le_refl _) _
  have hL0 := h.below hb0
  have hjl := (List.getElem?_eq_some_iff.1 hp).1
  obtain ⟨px, hpx⟩ : ∃ px, p.x = px := ⟨_, rfl⟩
  obtain ⟨pm, hpm⟩ : ∃ pm, p.m = pm := ⟨_, rfl⟩
  obtain ⟨gq, qc, rfl, hgq, c1, c2⟩ := pair_cells hL0.q hp
  rw [hpx] at c1
  rw [hpm] at c2
  obtain ⟨np, hnp⟩ : ∃ np, ps.length = np := ⟨_, rfl⟩
  have c0 : W0.cell? ⟨wl, 0, none⟩ = some (.slice (some ⟨gq, 0, none⟩) np qc) := by rw [← hnp]; exact cell_of hL0.me rfl
  have hjl2 := hjl
  rw [hnp] at hjl2 hps hj
  have hnz : ((np : Int) == 0) = false := by simp; omega
  have hjI : (j : Int) < (np : Int) := by omega
  have hj0 : (0 : Int) ≤ (j : Int) := by omega
  have hnp1 : (0 : Int) < (np : Int) ∧ (np : Int) ≤ 1000000 := by omega
  have z0 : W0.cell? ⟨w.heap.size, 0, none⟩ = some (.int .i64 10) := cell_of h0 rfl
  have z1 : W0.cell? ⟨w.heap.size, 1, none⟩ = some (.int .i64 A) := cell_of h0 rfl
  have HL := Lib.hid hL0
  have HP := Lib.hid (And.intro hp (And.intro htu (And.intro hk hsm)))
  have HW0 := Lib.hid hW0
  have HH0 := Lib.hid h0
  have HNP := Lib.hid hnp
  have HPX := Lib.hid (And.intro hpx hpm)
  have HLO := Lib.hid (And.intro hlo hb0.size)
  have HPK := Lib.hid (fun W => by have := pick_l A np W hA hnp1; rw [hj] at this; exact this)
  clear h hp htu hk hsm hW0 hb0 h0 hL0 hpx hpm hnp hj hnp1 hA hjl hjl2 hlo
  unfold opV
  go_enter Tryz.func30, Tryz.ntmps30
  go_upto_region 1 with fail
  rw [HW0.out]
  go_upto_region 5 with fail
  go_cut [5] from 20 to 33 (fun s5 wx => ∃ b, s5 = ptr b ∧ Hid (Below W0.heap.size W0 wx ∧ wx.heap[b]? = some (.cells #[ptr px, ptr pm] 114 (0, 0)) ∧ W0.heap.size ≤ b))
  case first =>
    go_region_held3 (fun w' => w'.cell? ⟨wl, 0, none⟩ = some (.slice (some ⟨gq, 0, none⟩) np qc) ∧ w'.cell? ⟨w.heap.size, 1, none⟩ = some (.int .i64 A) ∧ w'.cell? ⟨gq, j * 2, none⟩ = some (ptr px) ∧ w'.cell? ⟨gq, j * 2 + 1, none⟩ = some (ptr pm)) (go_keep)
      (first
        | (go_at_call 50; refine (HPK.out _).mono ?_; rintro y w2 ⟨rfl, rfl⟩))
    all_goals
      go_wp2_with fail
      go_meet
      case rel => exact ⟨_, rfl, Lib.hid ⟨((Below.refl _ _).alloc (Nat.le_refl _) _).drew, World.alloc_heap_new W0 _, Nat.le_refl _⟩⟩
  case rest =>
    obtain ⟨b, rfl, hB⟩ := hcut
    have hop := (hB.out.1.block _ (lt_of_heap HH0.out)).trans HH0.out
    have e0 := cell_of (i := 0) hop rfl
    have e1 := cell_of (i := 1) hop rfl
    have e2 := cell_of (i := 2) hop rfl
    have e3 := cell_of (i := 3) hop rfl
    have e4 := cell_of (i := 4) hop rfl
    have f0 := cell_of (i := 0) hB.out.2.1 rfl
    have f1 := cell_of (i := 1) hB.out.2.1 rfl
    have hL := HL.out.below hB.out.1
    have hcon := flown_l hL hil HP.out.1 HP.out.2.1 HP.out.2.2.1 HP.out.2.2.2
    simp only [opV, HPX.out.1, HPX.out.2] at hcon
    have HCON := Lib.hid hcon
    clear hop hL hcon z0 z1 c0 c1 c2
    go_wp2_with fail
    refine HCON.out.mono ?_
    rintro y w4 ⟨ow', iv', is', rfl, h1, h2⟩
    have H1 := Lib.hid h1
    clear h1
    go_wp2_with fail
    go_ret
    have H1o := H1.out
    try rw [← HPX.out.1, ← HPX.out.2] at H1o
    exact ⟨rfl, ow', _, _, _, p.t, _, _, by rw [set_same HP.out.1 HP.out.2.1]; exact H1o, Nat.le_succ _, h2, HP.out.2.2.1, by omega, by omega⟩
set_option maxRecDepth 100000 in
set_option maxHeartbeats 4000000 in
theorem step_wait_l (h : LB wb w wl ow qv bv iv ps bs is) (hps : ps.length ≤ 1000000) {j : Nat} {p : LP} (hp : ps[j]? = some p) (htu : p.u = p.t) (hk : p.t.Ok) (hsm : p.t.Small) (A B C : Int) (S : ByteArray) (hA : -9223372036854775808 ≤ A ∧ A ≤ 9223372036854775807) (hj : pickJ A ps.length = j) (hil : is.length ≤ 1000000) :
    Calls Tryz.prog 30 #[ptr wl, opV 6 A B C S] w fun y w' => y = .returned (.bool true) ∧ StepP wb w' wl ps bs is j p := by
  obtain ⟨ow, h, _, hlo⟩ := h.norm
  obtain ⟨W0, hW0⟩ : ∃ W0, w.alloc (.cells #[.int .i64 6, .int .i64 A, .int .i64 B, .int .i64 C, .string S] 73) = W0 := ⟨_, rfl⟩
  have h0 : W0.heap[w.heap.size]? = some (.cells #[.int .i64 6, .int .i64 A, .int .i64 B, .int .i64 C, .string S] 73 (0, 0)) := by rw [← hW0]; exact World.alloc_heap_new _ _
  have hb0 : Below w.heap.size w W0 := by rw [← hW0]; exact (Below.refl _ _).alloc (Nat.le_refl _) _
  have hL0 := h.below hb0
  have hjl := (List.getElem?_eq_some_iff.1 hp).1
  obtain ⟨px, hpx⟩ : ∃ px, p.x = px := ⟨_, rfl⟩
  obtain ⟨pm, hpm⟩ : ∃ pm, p.m = pm := ⟨_, rfl⟩
  obtain ⟨gq, qc, rfl, hgq, c1, c2⟩ := pair_cells hL0.q hp
  rw [hpx] at c1
  rw [hpm] at c2
  obtain ⟨np, hnp⟩ : ∃ np, ps.length = np := ⟨_, rfl⟩
  have c0 : W0.cell? ⟨wl, 0, none⟩ = some (.slice (some ⟨gq, 0, none⟩) np qc) := by rw [← hnp]; exact cell_of hL0.me rfl
  have hjl2 := hjl
  rw [hnp] at hjl2 hps hj
  have hnz : ((np : Int) == 0) = false := by simp; omega
  have hjI : (j : Int) < (np : Int) := by omega
  have hj0 : (0 : Int) ≤ (j : Int) := by omega
  have hnp1 : (0 : Int) < (np : Int) ∧ (np : Int) ≤ 1000000 := by omega
  have z0 : W0.cell? ⟨w.heap.size, 0, none⟩ = some (.int .i64 6) := cell_of h0 rfl
  have z1 : W0.cell? ⟨w.heap.size, 1, none⟩ = some (.int .i64 A) := cell_of h0 rfl
  have HL := Lib.hid hL0
  have HP := Lib.hid (And.intro hp (And.intro htu (And.intro hk hsm)))
  have HW0 := Lib.hid hW0
  have HH0 := Lib.hid h0
  have HNP := Lib.hid hnp
  have HPX := Lib.hid (And.intro hpx hpm)
  have HLO := Lib.hid (And.intro hlo hb0.size)
  have HPK := Lib.hid (fun W => by have := pick_l A np W hA hnp1; rw [hj] at this; exact this)
  clear h hp htu hk hsm hW0 hb0 h0 hL0 hpx hpm hnp hj hnp1 hA hjl hjl2 hlo
  unfold opV
  go_enter Tryz.func30, Tryz.ntmps30
  go_upto_region 1 with fail
  rw [HW0.out]
  go_upto_region 5 with fail
  go_cut [5] from 20 to 33 (fun s5 wx => ∃ b, s5 = ptr b ∧ Hid (Below W0.heap.size W0 wx ∧ wx.heap[b]? = some (.cells #[ptr px, ptr pm] 114 (0, 0)) ∧ W0.heap.size ≤ b))
  case first =>
    go_region_held3 (fun w' => w'.cell? ⟨wl, 0, none⟩ = some (.slice (some ⟨gq, 0, none⟩) np qc) ∧ w'.cell? ⟨w.heap.size, 1, none⟩ = some (.int .i64 A) ∧ w'.cell? ⟨gq, j * 2, none⟩ = some (ptr px) ∧ w'.cell? ⟨gq, j * 2 + 1, none⟩ = some (ptr pm)) (go_keep)
      (first
        | (go_at_call 50; refine (HPK.out _).mono ?_; rintro y w2 ⟨rfl, rfl⟩))
    all_goals
      go_wp2_with fail
      go_meet
      case rel => exact ⟨_, rfl, Lib.hid ⟨((Below.refl _ _).alloc (Nat.le_refl _) _).drew, World.alloc_heap_new W0 _, Nat.le_refl _⟩⟩
  case rest =>
    obtain ⟨b, rfl, hB⟩ := hcut
    have hop := (hB.out.1.block _ (lt_of_heap HH0.out)).trans HH0.out
    have e0 := cell_of (i := 0) hop rfl
    have e1 := cell_of (i := 1) hop rfl
    have e2 := cell_of (i := 2) hop rfl
    have e3 := cell_of (i := 3) hop rfl
    have e4 := cell_of (i := 4) hop rfl
    have f0 := cell_of (i := 0) hB.out.2.1 rfl
    have f1 := cell_of (i := 1) hB.out.2.1 rfl
    have hL := HL.out.below hB.out.1
    have hcon := told_wait_l hL hil HP.out.1 HP.out.2.1 HP.out.2.2.1 HP.out.2.2.2 A B C S
    simp only [opV, HPX.out.1, HPX.out.2] at hcon
    have HCON := Lib.hid hcon
    clear hop hL hcon z0 z1 c0 c1 c2
    go_wp2_with fail
    refine HCON.out.mono ?_
    rintro y w4 ⟨ow', iv', f, rfl, h1⟩
    have H1 := Lib.hid h1
    clear h1
    go_wp2_with fail
    go_ret
    have H1o := H1.out
    try rw [← HPX.out.1, ← HPX.out.2] at H1o
    exact ⟨rfl, ow', _, _, _, p.t, _, _, by rw [set_same HP.out.1 HP.out.2.1]; exact H1o, Nat.le_succ _, by simp, HP.out.2.2.1, by omega, by omega⟩
end
end Go.Proofs.YticobikhndlejaaGreatDoor

/- The law: one step, told by kinds (4). Printed by gen_lawW.py. -/
namespace Go.Proofs.YticobikhndlejaaGreatDoor
open Go.RowKit Go.Shelf Go.Lib

section
variable {wb w : World} {wl : Nat} {ow : Nat → Lab} {qv bv iv : Value} {ps : List LP} {bs is : List Value}
set_option maxRecDepth 100000 in
set_option maxHeartbeats 4000000 in
theorem step_disk_l (h : LB wb w wl ow qv bv iv ps bs is) (hps : ps.length ≤ 1000000) {j : Nat} {p : LP} (hp : ps[j]? = some p) (htu : p.u = p.t) (hk : p.t.Ok) (hsm : p.t.Small) (A B C : Int) (S : ByteArray) (hA : -9223372036854775808 ≤ A ∧ A ≤ 9223372036854775807) (hj : pickJ A ps.length = j) (hbl : bs.length ≤ 1000000) :
    Calls Tryz.prog 30 #[ptr wl, opV 8 A B C S] w fun y w' => y = .returned (.bool true) ∧ StepP wb w' wl ps bs is j p := by
  obtain ⟨ow, h, _, hlo⟩ := h.norm
  obtain ⟨W0, hW0⟩ : ∃ W0, w.alloc (.cells #[.int .i64 8, .int .i64 A, .int .i64 B, .int .i64 C, .string S] 73) = W0 := ⟨_, rfl⟩
  have h0 : W0.heap[w.heap.size]? = some (.cells #[.int .i64 8, .int .i64 A, .int .i64 B, .int .i64 C, .string S] 73 (0, 0)) := by rw [← hW0]; exact World.alloc_heap_new _ _
  have hb0 : Below w.heap.size w W0 := by rw [← hW0]; exact (Below.refl _ _).alloc (Nat.le_refl _) _
  have hL0 := h.below hb0
  have hjl := (List.getElem?_eq_some_iff.1 hp).1
  obtain ⟨px, hpx⟩ : ∃ px, p.x = px := ⟨_, rfl⟩
  obtain ⟨pm, hpm⟩ : ∃ pm, p.m = pm := ⟨_, rfl⟩
  obtain ⟨gq, qc, rfl, hgq, c1, c2⟩ := pair_cells hL0.q hp
  rw [hpx] at c1
  rw [hpm] at c2
  obtain ⟨np, hnp⟩ : ∃ np, ps.length = np := ⟨_, rfl⟩
  have c0 : W0.cell? ⟨wl, 0, none⟩ = some (.slice (some ⟨gq, 0, none⟩) np qc) := by rw [← hnp]; exact cell_of hL0.me rfl
  have hjl2 := hjl
  rw [hnp] at hjl2 hps hj
  have hnz : ((np : Int) == 0) = false := by simp; omega
  have hjI : (j : Int) < (np : Int) := by omega
  have hj0 : (0 : Int) ≤ (j : Int) := by omega
  have hnp1 : (0 : Int) < (np : Int) ∧ (np : Int) ≤ 1000000 := by omega
  have z0 : W0.cell? ⟨w.heap.size, 0, none⟩ = some (.int .i64 8) := cell_of h0 rfl
  have z1 : W0.cell? ⟨w.heap.size, 1, none⟩ = some (.int .i64 A) := cell_of h0 rfl
  have HL := Lib.hid hL0
  have HP := Lib.hid (And.intro hp (And.intro htu (And.intro hk hsm)))
  have HW0 := Lib.hid hW0
  have HH0 := Lib.hid h0
  have HNP := Lib.hid hnp
  have HPX := Lib.hid (And.intro hpx hpm)
  have HLO := Lib.hid (And.intro hlo hb0.size)
  have HPK := Lib.hid (fun W => by have := pick_l A np W hA hnp1; rw [hj] at this; exact this)
  clear h hp htu hk hsm hW0 hb0 h0 hL0 hpx hpm hnp hj hnp1 hA hjl hjl2 hlo
  unfold opV
  go_enter Tryz.func30, Tryz.ntmps30
  go_upto_region 1 with fail
  rw [HW0.out]
  go_upto_region 5 with fail
  go_cut [5] from 20 to 33 (fun s5 wx => ∃ b, s5 = ptr b ∧ Hid (Below W0.heap.size W0 wx ∧ wx.heap[b]? = some (.cells #[ptr px, ptr pm] 114 (0, 0)) ∧ W0.heap.size ≤ b))
  case first =>
    go_region_held3 (fun w' => w'.cell? ⟨wl, 0, none⟩ = some (.slice (some ⟨gq, 0, none⟩) np qc) ∧ w'.cell? ⟨w.heap.size, 1, none⟩ = some (.int .i64 A) ∧ w'.cell? ⟨gq, j * 2, none⟩ = some (ptr px) ∧ w'.cell? ⟨gq, j * 2 + 1, none⟩ = some (ptr pm)) (go_keep)
      (first
        | (go_at_call 50; refine (HPK.out _).mono ?_; rintro y w2 ⟨rfl, rfl⟩))
    all_goals
      go_wp2_with fail
      go_meet
      case rel => exact ⟨_, rfl, Lib.hid ⟨((Below.refl _ _).alloc (Nat.le_refl _) _).drew, World.alloc_heap_new W0 _, Nat.le_refl _⟩⟩
  case rest =>
    obtain ⟨b, rfl, hB⟩ := hcut
    have hop := (hB.out.1.block _ (lt_of_heap HH0.out)).trans HH0.out
    have e0 := cell_of (i := 0) hop rfl
    have e1 := cell_of (i := 1) hop rfl
    have e2 := cell_of (i := 2) hop rfl
    have e3 := cell_of (i := 3) hop rfl
    have e4 := cell_of (i := 4) hop rfl
    have f0 := cell_of (i := 0) hB.out.2.1 rfl
    have f1 := cell_of (i := 1) hB.out.2.1 rfl
    have hL := HL.out.below hB.out.1
    have hcon := told_disk_l hL hbl HP.out.1 HP.out.2.1 HP.out.2.2.1 A B C S
    simp only [opV, HPX.out.1, HPX.out.2] at hcon
    have HCON := Lib.hid hcon
    clear hop hL hcon z0 z1 c0 c1 c2
    go_wp2_with fail
    refine HCON.out.mono ?_
    rintro y w4 ⟨ow', bv', f, rfl, h1⟩
    have H1 := Lib.hid h1
    clear h1
    go_wp2_with fail
    go_ret
    have H1o := H1.out
    try rw [← HPX.out.1, ← HPX.out.2] at H1o
    exact ⟨rfl, ow', _, _, _, p.t, _, _, by rw [set_same HP.out.1 HP.out.2.1]; exact H1o, by simp, Nat.le_add_right _ _, HP.out.2.2.1, by omega, by omega⟩
set_option maxRecDepth 100000 in
set_option maxHeartbeats 4000000 in
theorem step_step_l (h : LB wb w wl ow qv bv iv ps bs is) (hps : ps.length ≤ 1000000) {j : Nat} {p : LP} (hp : ps[j]? = some p) (htu : p.u = p.t) (hk : p.t.Ok) (hsm : p.t.Small) (A B C : Int) (S : ByteArray) (hA : -9223372036854775808 ≤ A ∧ A ≤ 9223372036854775807) (hj : pickJ A ps.length = j) (hil : is.length ≤ 1000000) :
    Calls Tryz.prog 30 #[ptr wl, opV 9 A B C S] w fun y w' => y = .returned (.bool true) ∧ StepP wb w' wl ps bs is j p := by
  obtain ⟨ow, h, _, hlo⟩ := h.norm
  obtain ⟨W0, hW0⟩ : ∃ W0, w.alloc (.cells #[.int .i64 9, .int .i64 A, .int .i64 B, .int .i64 C, .string S] 73) = W0 := ⟨_, rfl⟩
  have h0 : W0.heap[w.heap.size]? = some (.cells #[.int .i64 9, .int .i64 A, .int .i64 B, .int .i64 C, .string S] 73 (0, 0)) := by rw [← hW0]; exact World.alloc_heap_new _ _
  have hb0 : Below w.heap.size w W0 := by rw [← hW0]; exact (Below.refl _ _).alloc (Nat.le_refl _) _
  have hL0 := h.below hb0
  have hjl := (List.getElem?_eq_some_iff.1 hp).1
  obtain ⟨px, hpx⟩ : ∃ px, p.x = px := ⟨_, rfl⟩
  obtain ⟨pm, hpm⟩ : ∃ pm, p.m = pm := ⟨_, rfl⟩
  obtain ⟨gq, qc, rfl, hgq, c1, c2⟩ := pair_cells hL0.q hp
  rw [hpx] at c1
  rw [hpm] at c2
  obtain ⟨np, hnp⟩ : ∃ np, ps.length = np := ⟨_, rfl⟩
  have c0 : W0.cell? ⟨wl, 0, none⟩ = some (.slice (some ⟨gq, 0, none⟩) np qc) := by rw [← hnp]; exact cell_of hL0.me rfl
  have hjl2 := hjl
  rw [hnp] at hjl2 hps hj
  have hnz : ((np : Int) == 0) = false := by simp; omega
  have hjI : (j : Int) < (np : Int) := by omega
  have hj0 : (0 : Int) ≤ (j : Int) := by omega
  have hnp1 : (0 : Int) < (np : Int) ∧ (np : Int) ≤ 1000000 := by omega
  have z0 : W0.cell? ⟨w.heap.size, 0, none⟩ = some (.int .i64 9) := cell_of h0 rfl
  have z1 : W0.cell? ⟨w.heap.size, 1, none⟩ = some (.int .i64 A) := cell_of h0 rfl
  have HL := Lib.hid hL0
  have HP := Lib.hid (And.intro hp (And.intro htu (And.intro hk hsm)))
  have HW0 := Lib.hid hW0
  have HH0 := Lib.hid h0
  have HNP := Lib.hid hnp
  have HPX := Lib.hid (And.intro hpx hpm)
  have HLO := Lib.hid (And.intro hlo hb0.size)
  have HPK := Lib.hid (fun W => by have := pick_l A np W hA hnp1; rw [hj] at this; exact this)
  clear h hp htu hk hsm hW0 hb0 h0 hL0 hpx hpm hnp hj hnp1 hA hjl hjl2 hlo
  unfold opV
  go_enter Tryz.func30, Tryz.ntmps30
  go_upto_region 1 with fail
  rw [HW0.out]
  go_upto_region 5 with fail
  go_cut [5] from 20 to 33 (fun s5 wx => ∃ b, s5 = ptr b ∧ Hid (Below W0.heap.size W0 wx ∧ wx.heap[b]? = some (.cells #[ptr px, ptr pm] 114 (0, 0)) ∧ W0.heap.size ≤ b))
  case first =>
    go_region_held3 (fun w' => w'.cell? ⟨wl, 0, none⟩ = some (.slice (some ⟨gq, 0, none⟩) np qc) ∧ w'.cell? ⟨w.heap.size, 1, none⟩ = some (.int .i64 A) ∧ w'.cell? ⟨gq, j * 2, none⟩ = some (ptr px) ∧ w'.cell? ⟨gq, j * 2 + 1, none⟩ = some (ptr pm)) (go_keep)
      (first
        | (go_at_call 50; refine (HPK.out _).mono ?_; rintro y w2 ⟨rfl, rfl⟩))
    all_goals
      go_wp2_with fail
      go_meet
      case rel => exact ⟨_, rfl, Lib.hid ⟨((Below.refl _ _).alloc (Nat.le_refl _) _).drew, World.alloc_heap_new W0 _, Nat.le_refl _⟩⟩
  case rest =>
    obtain ⟨b, rfl, hB⟩ := hcut
    have hop := (hB.out.1.block _ (lt_of_heap HH0.out)).trans HH0.out
    have e0 := cell_of (i := 0) hop rfl
    have e1 := cell_of (i := 1) hop rfl
    have e2 := cell_of (i := 2) hop rfl
    have e3 := cell_of (i := 3) hop rfl
    have e4 := cell_of (i := 4) hop rfl
    have f0 := cell_of (i := 0) hB.out.2.1 rfl
    have f1 := cell_of (i := 1) hB.out.2.1 rfl
    have hL := HL.out.below hB.out.1
    have hcon := told_step_l hL hil HP.out.1 HP.out.2.1 HP.out.2.2.1 HP.out.2.2.2 A B C S
    simp only [opV, HPX.out.1, HPX.out.2] at hcon
    have HCON := Lib.hid hcon
    clear hop hL hcon z0 z1 c0 c1 c2
    go_wp2_with fail
    refine HCON.out.mono ?_
    rintro y w4 ⟨ow', iv', f, T, rfl, h1, h2, h3, h4⟩
    have H1 := Lib.hid h1
    clear h1
    go_wp2_with fail
    go_ret
    have H1o := H1.out
    try rw [← HPX.out.1, ← HPX.out.2] at H1o
    exact ⟨rfl, ow', _, _, _, T, _, _, H1o, Nat.le_succ _, by simp, h2, by omega, by omega⟩
set_option maxRecDepth 100000 in
set_option maxHeartbeats 4000000 in
theorem step_crash_l (h : LB wb w wl ow qv bv iv ps bs is) (hps : ps.length ≤ 1000000) {j : Nat} {p : LP} (hp : ps[j]? = some p) (htu : p.u = p.t) (hk : p.t.Ok) (hsm : p.t.Small) (A B C : Int) (S : ByteArray) (hA : -9223372036854775808 ≤ A ∧ A ≤ 9223372036854775807) (hj : pickJ A ps.length = j) (hS : S.size ≤ 1000000) :
    Calls Tryz.prog 30 #[ptr wl, opV 13 A B C S] w fun y w' => y = .returned (.bool true) ∧ StepP wb w' wl ps bs is j p := by
  obtain ⟨ow, h, _, hlo⟩ := h.norm
  obtain ⟨W0, hW0⟩ : ∃ W0, w.alloc (.cells #[.int .i64 13, .int .i64 A, .int .i64 B, .int .i64 C, .string S] 73) = W0 := ⟨_, rfl⟩
  have h0 : W0.heap[w.heap.size]? = some (.cells #[.int .i64 13, .int .i64 A, .int .i64 B, .int .i64 C, .string S] 73 (0, 0)) := by rw [← hW0]; exact World.alloc_heap_new _ _
  have hb0 : Below w.heap.size w W0 := by rw [← hW0]; exact (Below.refl _ _).alloc (Nat.le_refl _) _
  have hL0 := h.below hb0
  have hjl := (List.getElem?_eq_some_iff.1 hp).1
  obtain ⟨px, hpx⟩ : ∃ px, p.x = px := ⟨_, rfl⟩
  obtain ⟨pm, hpm⟩ : ∃ pm, p.m = pm := ⟨_, rfl⟩
  obtain ⟨gq, qc, rfl, hgq, c1, c2⟩ := pair_cells hL0.q hp
  rw [hpx] at c1
  rw [hpm] at c2
  obtain ⟨np, hnp⟩ : ∃ np, ps.length = np := ⟨_, rfl⟩
  have c0 : W0.cell? ⟨wl, 0, none⟩ = some (.slice (some ⟨gq, 0, none⟩) np qc) := by rw [← hnp]; exact cell_of hL0.me rfl
  have hjl2 := hjl
  rw [hnp] at hjl2 hps hj
  have hnz : ((np : Int) == 0) = false := by simp; omega
  have hjI : (j : Int) < (np : Int) := by omega
  have hj0 : (0 : Int) ≤ (j : Int) := by omega
  have hnp1 : (0 : Int) < (np : Int) ∧ (np : Int) ≤ 1000000 := by omega
  have z0 : W0.cell? ⟨w.heap.size, 0, none⟩ = some (.int .i64 13) := cell_of h0 rfl
  have z1 : W0.cell? ⟨w.heap.size, 1, none⟩ = some (.int .i64 A) := cell_of h0 rfl
  have HL := Lib.hid hL0
  have HP := Lib.hid (And.intro hp (And.intro htu (And.intro hk hsm)))
  have HW0 := Lib.hid hW0
  have HH0 := Lib.hid h0
  have HNP := Lib.hid hnp
  have HPX := Lib.hid (And.intro hpx hpm)
  have HLO := Lib.hid (And.intro hlo hb0.size)
  have HPK := Lib.hid (fun W => by have := pick_l A np W hA hnp1; rw [hj] at this; exact this)
  clear h hp htu hk hsm hW0 hb0 h0 hL0 hpx hpm hnp hj hnp1 hA hjl hjl2 hlo
  unfold opV
  go_enter Tryz.func30, Tryz.ntmps30
  go_upto_region 1 with fail
  rw [HW0.out]
  go_upto_region 5 with fail
  go_cut [5] from 20 to 33 (fun s5 wx => ∃ b, s5 = ptr b ∧ Hid (Below W0.heap.size W0 wx ∧ wx.heap[b]? = some (.cells #[ptr px, ptr pm] 114 (0, 0)) ∧ W0.heap.size ≤ b))
  case first =>
    go_region_held3 (fun w' => w'.cell? ⟨wl, 0, none⟩ = some (.slice (some ⟨gq, 0, none⟩) np qc) ∧ w'.cell? ⟨w.heap.size, 1, none⟩ = some (.int .i64 A) ∧ w'.cell? ⟨gq, j * 2, none⟩ = some (ptr px) ∧ w'.cell? ⟨gq, j * 2 + 1, none⟩ = some (ptr pm)) (go_keep)
      (first
        | (go_at_call 50; refine (HPK.out _).mono ?_; rintro y w2 ⟨rfl, rfl⟩))
    all_goals
      go_wp2_with fail
      go_meet
      case rel => exact ⟨_, rfl, Lib.hid ⟨((Below.refl _ _).alloc (Nat.le_refl _) _).drew, World.alloc_heap_new W0 _, Nat.le_refl _⟩⟩
  case rest =>
    obtain ⟨b, rfl, hB⟩ := hcut
    have hop := (hB.out.1.block _ (lt_of_heap HH0.out)).trans HH0.out
    have e0 := cell_of (i := 0) hop rfl
    have e1 := cell_of (i := 1) hop rfl
    have e2 := cell_of (i := 2) hop rfl
    have e3 := cell_of (i := 3) hop rfl
    have e4 := cell_of (i := 4) hop rfl
    have f0 := cell_of (i := 0) hB.out.2.1 rfl
    have f1 := cell_of (i := 1) hB.out.2.1 rfl
    have hL := HL.out.below hB.out.1
    have hcon := told_crash_l hL HP.out.1 HP.out.2.1 HP.out.2.2.1 HP.out.2.2.2 A B C S hS
    simp only [opV, HPX.out.1, HPX.out.2] at hcon
    have HCON := Lib.hid hcon
    clear hop hL hcon z0 z1 c0 c1 c2
    go_wp2_with fail
    refine HCON.out.mono ?_
    rintro y w4 ⟨ow', T, rfl, h1, h2, h3, h4⟩
    have H1 := Lib.hid h1
    clear h1
    go_wp2_with fail
    go_ret
    have H1o := H1.out
    try rw [← HPX.out.1, ← HPX.out.2] at H1o
    exact ⟨rfl, ow', _, _, _, T, _, _, H1o, Nat.le_succ _, Nat.le_add_right _ _, h2, by omega, by omega⟩
end
end Go.Proofs.YticobikhndlejaaGreatDoor
