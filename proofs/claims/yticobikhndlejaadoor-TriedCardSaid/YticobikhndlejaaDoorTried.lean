/- elevatorkeep.Tried by contract: it answers true. -/
import Derived.Test.YticobikhndlejaaDoorKPoll2
import Derived.Test.YticobikhndlejaaDoorTriedP
namespace Go.Proofs.YticobikhndlejaaDoor
open Go.RowKit Go.Shelf Go.Lib

def tRs (bw : Bool) (p : Nat) : List KReq := [newK 1 bw (p : Int) (if bw then strOfNums (askL 9 0) else ⟨#[]⟩)]
theorem tLoop_step {wr : Bool} {p n f i wait : Nat} {t : St} (h : tLoop wr p n (f + 1) i wait t = true) : ∃ t1 c t2, tWait wait i t = some t1 ∧ t1.cmd = some c ∧ c.write = wr ∧ c.count = 1 ∧ c.nums.length = 1 ∧ (t1.sent c).complete 0 (decide (i < n)) = some t2 ∧ (n ≤ i → tEnd wr p n t2 = true) ∧ (i < n → tLoop wr p n f (i + 1) (2 ^ i) t2 = true) := by
  unfold tLoop at h
  cases hr : tRound wr n i wait t with
  | none => rw [hr] at h; cases h
  | some t2 =>
    rw [hr] at h
    simp only at h
    unfold tRound at hr
    cases hw : tWait wait i t with
    | none => rw [hw] at hr; cases hr
    | some t1 =>
      rw [hw] at hr
      simp only at hr
      cases hc : t1.cmd with
      | none => rw [hc] at hr; cases hr
      | some c =>
        rw [hc] at hr
        simp only at hr
        split at hr
        · rename_i hcond
          refine ⟨t1, c, t2, rfl, hc, hcond.1, hcond.2.1, hcond.2.2, hr, fun hn => ?_, fun hn => ?_⟩
          · rw [if_pos hn] at h; exact h
          · rw [if_neg (by omega)] at h; exact h
        · cases hr
theorem tWait_step {k i : Nat} {t t1 : St} (h : tWait (k + 1) i t = some t1) : t.cmd = none ∧ (∃ r, t.find 1 = some r ∧ (r.state = 0 ∨ r.state = 1) ∧ r.tries = (i : Int)) ∧ tWait k i t.tick = some t1 := by
  unfold tWait at h
  split at h
  · rename_i hc
    rw [Bool.and_eq_true] at hc
    refine ⟨by simpa using hc.1, ?_, h⟩
    have h2 := hc.2
    unfold tOpen at h2
    split at h2
    · cases h2
    · rename_i r hr
      have h3 := of_decide_eq_true h2
      exact ⟨r, hr, h3.1, h3.2⟩
  · cases h
theorem tEnd_parts {wr : Bool} {p n : Nat} {t : St} (h : tEnd wr p n t = true) : t.cmd = none ∧ (∃ r, t.find 1 = some r ∧ r.write = wr ∧ r.state = if n < 4 then 2 else 3) ∧ t.disk.length = 64 ∧ dget t.disk (p : Int) = if n < 4 ∧ wr = true then askD 9 0 else ⟨0, 0, 0, 0⟩ := by
  unfold tEnd at h
  rw [Bool.and_eq_true, Bool.and_eq_true] at h
  obtain ⟨⟨h1, h2⟩, h3⟩ := h
  refine ⟨by simpa using h1, ?_, (of_decide_eq_true h3).1, (of_decide_eq_true h3).2⟩
  split at h2
  · cases h2
  · rename_i r hr
    have h4 := of_decide_eq_true h2
    refine ⟨r, hr, h4.1, ?_⟩
    have h5 := h4.2.1
    split at h5 <;> simp_all
theorem n59 : (2 : Int) ^ 59 = 576460752303423488 := by decide
theorem kinv_tick {rs : List KReq} {t : St} (h : KInv ⟨rs, t⟩) : KInv ⟨rs, t.tick⟩ := h.tick
theorem kinv_sent {rs : List KReq} {t : St} (h : KInv ⟨rs, t⟩) {c : Cmd} (hc : t.cmd = some c) : KInv ⟨rs, t.sent c⟩ := by
  have := h.step
  unfold St.step at this
  simp only [hc] at this
  exact this
theorem kinv_comp {rs : List KReq} {t t' : St} (h : KInv ⟨rs, t⟩) {k : Nat} {fault : Bool} (hc : t.complete k fault = some t') : KInv ⟨rs, t'⟩ := by
  have := h.comp k fault
  unfold St.comp at this
  simp only [hc] at this
  exact this

theorem tPoll {bw : Bool} {p n : Nat} {t : St} (h : tEnd bw p n t = true) : ∃ r0 : KReq, (⟨tRs bw p, t⟩ : KW).poll 0 = ⟨[r0], t.tell 1⟩ ∧ r0.how = (if n < 4 then 1 else 2) ∧ r0.data = (if bw then strOfNums (askL 9 0) else ⟨#[]⟩) := by
  obtain ⟨_, ⟨r, e2, e3, e4⟩, _, _⟩ := tEnd_parts h
  have hst : ¬ r.state < 2 := by rw [e4]; split <;> omega
  refine ⟨KW.pollR (newK 1 bw (p : Int) (if bw then strOfNums (askL 9 0) else ⟨#[]⟩)) r, ?_, ?_, ?_⟩
  · unfold KW.poll tRs
    simp only [List.getElem?_cons_zero, newK, e2]
    rw [if_neg (by decide), if_neg hst]
    rfl
  · unfold KW.pollR
    by_cases hn : n < 4
    · rw [if_pos hn] at e4 ⊢; rw [if_pos e4]
    · rw [if_neg hn] at e4 ⊢; rw [if_neg (by rw [e4]; decide), if_pos e4]
  · unfold KW.pollR
    split
    · rfl
    · split <;> rfl
theorem tPow {i : Nat} (h : i < 4) : wrap64 (2 ^ i) = ((2 ^ i : Nat) : Int) ∧ 2 ^ i ≤ 8 := by
  have : i = 0 ∨ i = 1 ∨ i = 2 ∨ i = 3 := by omega
  rcases this with rfl | rfl | rfl | rfl <;> exact ⟨by decide +kernel, by decide⟩
theorem tDisk {p : Nat} (hp : p < 16) {disk : List Int} (hl : disk.length = 64) : ∀ j, j < 4 → disk.getD (4 * p + j) 0 = [(dget disk (p : Int)).a, (dget disk (p : Int)).b, (dget disk (p : Int)).c, (dget disk (p : Int)).d].getD j 0 := by
  intro j hj
  have : j = 0 ∨ j = 1 ∨ j = 2 ∨ j = 3 := by omega
  rcases this with rfl | rfl | rfl | rfl <;> simp [dget]

set_option maxRecDepth 100000 in
set_option maxHeartbeats 4000000 in
theorem tried_true (wrt pg ft : Int) (w : World) (hg : ErrVar w) (h1 : -9223372036854775808 ≤ wrt ∧ wrt ≤ 9223372036854775807) (h2 : -9223372036854775808 ≤ pg ∧ pg ≤ 9223372036854775807) (h3 : -9223372036854775808 ≤ ft ∧ ft ≤ 9223372036854775807) :
    Calls Tryd.prog 6 #[.int .i64 wrt, .int .i64 pg, .int .i64 ft] w fun x w' => x = .returned (.bool true) ∧ Below w.heap.size w w' := by
  have hpp := pickI_lt pg (n := 16) (by omega)
  obtain ⟨p, hp⟩ : ∃ p : Nat, pickI pg 16 = (p : Int) := ⟨(pickI pg 16).toNat, by omega⟩
  have hpn := pickI_lt ft (n := 5) (by omega)
  obtain ⟨n, hn⟩ : ∃ n : Nat, pickI ft 5 = (n : Int) := ⟨(pickI ft 5).toNat, by omega⟩
  have hp16 : p < 16 := by omega
  have hn5 : n < 5 := by omega
  obtain ⟨bw, hwr⟩ : ∃ bw, (pickI wrt 2 == 1) = bw := ⟨_, rfl⟩
  have HSIM := Lib.hid (tSim_true bw hp16 hn5)
  have HG := Lib.hid hg
  have HP := Lib.hid hp
  have HN := Lib.hid hn
  clear hg hpp hpn hp hn
  go_enter Tryd.func6, Tryd.ntmps6
  go_wp2_with fail
  refine (begun_o 0 w HG.out (by omega)).mono ?_
  rintro x w1' ⟨wo, rfl, hK⟩
  have hK1 : KO w w1' wo ⟨[], St.new 1⟩ := hK
  have HK := Lib.hid hK1
  clear hK hK1
  go_wp2_with fail
  refine (pick_any wrt 2 _ h1 (by omega)).mono ?_
  rintro x w2' ⟨rfl, rfl⟩
  go_wp2_with fail
  refine (pick_any pg 16 _ h2 (by omega)).mono ?_
  rintro x w3' ⟨rfl, rfl⟩
  rw [HP.out]
  have hask : Calls Tryd.prog 10 #[ptr wo, .bool bw, .int .i64 p, .int .u8 9] w3' fun y w' => y = .returned (.bool true) ∧ KO w w' wo ⟨tRs bw p, (St.new 1).add bw (p : Int) (if bw then askD 9 0 else ⟨0, 0, 0, 0⟩)⟩ ∧ KInv ⟨tRs bw p, (St.new 1).add bw (p : Int) (if bw then askD 9 0 else ⟨0, 0, 0, 0⟩)⟩ := by
    have hi0 : KInv ⟨[], St.new 1⟩ := kinv_new (by omega)
    cases bw with
    | true =>
      refine (askW_o HK.out HG.out hi0 ⟨by decide, by decide⟩ (by decide) p 9 (by omega) (by omega)).mono ?_
      rintro y w' ⟨rfl, e1⟩
      exact ⟨rfl, e1, hi0.askW p 9 (by omega) (by omega)⟩
    | false =>
      refine (askR_o HK.out HG.out hi0 ⟨by decide, by decide⟩ (by decide) p 9 (by omega)).mono ?_
      rintro y w' ⟨rfl, e1⟩
      exact ⟨rfl, e1, hi0.askR p (by omega)⟩
  have HA := Lib.hid hask
  clear hask
  go_wp2_with fail
  refine HA.out.mono ?_
  rintro x w4' ⟨rfl, hK4, hI4⟩
  have HK4 := Lib.hid hK4
  have HI4 := Lib.hid hI4
  clear hK4 hI4
  go_wp2_with fail
  refine (pick_any ft 5 _ h3 (by omega)).mono ?_
  rintro x w5' ⟨rfl, rfl⟩
  rw [HN.out]
  go_wp2_with fail
  obtain ⟨rs, hrs⟩ : ∃ rs, tRs bw p = rs := ⟨_, rfl⟩
  have HRS := Lib.hid hrs
  rw [hrs] at HK4 HI4
  clear hrs
  go_loopg [11, 12] 4 (fun kk wa ii wx => ∃ (i wait f : Nat) (t : St), kk = 4 - i ∧ i ≤ 4 ∧ f + i = 4 ∧ wa = .int .i64 wait ∧ ii = .int .i64 i ∧ wait ≤ 8 ∧ Hid (tLoop bw p n f i wait t = true) ∧ KO w wx wo ⟨rs, t⟩ ∧ Hid (KInv ⟨rs, t⟩ ∧ t.last = 1 ∧ t.now ≤ 10 * (i : Int)))
  case atStart => exact ⟨0, 0, 4, _, rfl, by omega, rfl, rfl, rfl, by omega, HSIM, HK4.out, Lib.hid ⟨HI4.out, rfl, by show (0 : Int) ≤ _; omega⟩⟩
  case round =>
    obtain ⟨i, wait, f, t, rfl, hi4, hfi, rfl, rfl, hw8, hL, hKt, hIt⟩ := hrel
    by_cases hlt : i < 4
    · obtain ⟨f', rfl⟩ : ∃ f', f = f' + 1 := ⟨f - 1, by omega⟩
      obtain ⟨t1, c, t2, a1, a2, a3, a4, a5, a6, a7, a8⟩ := tLoop_step hL.out
      have A1 := Lib.hid a1
      have A2 := Lib.hid a2
      have A6 := Lib.hid a6
      have A7 := Lib.hid a7
      have A8 := Lib.hid a8
      have HKt := Lib.hid hKt
      clear a1 a2 a6 a7 a8 hKt hL
      have hltI : (i : Int) < 4 := by omega
      go_wp2_with fail
      obtain ⟨W0, rfl⟩ : ∃ x, x = wr := ⟨_, rfl⟩
      go_loopg [13] wait (fun kk kv wx => ∃ (j : Nat) (t' : St), kk = wait - j ∧ j ≤ wait ∧ kv = .int .i64 j ∧ Hid (tWait (wait - j) i t' = some t1) ∧ KO w wx wo ⟨rs, t'⟩ ∧ Hid (KInv ⟨rs, t'⟩ ∧ t'.last = 1 ∧ t'.now ≤ 10 * (i : Int) + j))
      case atStart => exact ⟨0, t, by simp, by omega, rfl, Lib.hid A1.out, HKt.out, Lib.hid ⟨hIt.out.1, hIt.out.2.1, by have := hIt.out.2.2; omega⟩⟩
      case round =>
        obtain ⟨j, t', rfl, hj, rfl, hT, hKj, hIj⟩ := hrel
        have hsm : t'.Small := ⟨by have := hIj.out.2.1; omega, by rw [n59]; have := hIj.out.2.2; omega⟩
        by_cases hjl : j < wait
        · obtain ⟨b1, ⟨r, b2, b3, b4⟩, b5⟩ := tWait_step (k := wait - (j + 1)) (by rw [show wait - (j + 1) + 1 = wait - j from by omega]; exact hT.out)
          obtain ⟨q, c0, c1, cn, _⟩ := step_o hKj hIj.out.1.ok hsm
          have CN := Lib.hid (cn b1)
          have B := Lib.hid (And.intro b1 (And.intro b2 (And.intro b3 b5)))
          have HSM := Lib.hid hsm
          have hjI : (j : Int) < (wait : Int) := by omega
          clear cn b1 b2 b3 b5 hKj hsm
          go_wp2_with fail
          refine (CN.out _ (by go_grown)).mono ?_
          rintro x w6 ⟨rfl, hK6, _⟩
          obtain ⟨q6, d0, d1, dn⟩ := pend_o hK6 HG.out 1 r B.out.2.1 B.out.2.2.1
          have DN := Lib.hid dn
          clear dn hK6
          go_wp2_with fail
          refine (DN.out _ (by go_grown)).mono ?_
          rintro x w7 ⟨rfl, hb7, hK7⟩
          rw [b4]
          obtain ⟨q7, e0, e1, en⟩ := tick_o hK7 hIj.out.1.ok HSM.out
          have EN := Lib.hid en
          have HB7 := Lib.hid hb7
          clear en hK7 hb7
          go_wp2_with fail
          refine (EN.out _ (by go_grown)).mono ?_
          rintro x w8 ⟨rfl, hK8, _⟩
          have HK8 := Lib.hid hK8
          clear hK8
          go_wp2_with fail
          go_roundg (wait - (j + 1))
          case measure => omega
          case rel => exact ⟨j + 1, t'.tick, rfl, by omega, by go_num, Lib.hid B.out.2.2.2, HK8.out, Lib.hid ⟨kinv_tick hIj.out.1, hIj.out.2.1, by have := hIj.out.2.2; simp only [St.tick]; omega⟩⟩
        · obtain rfl : j = wait := by omega
          have hT0 : t' = t1 := by have := hT.out; simpa [tWait] using this
          subst hT0
          by_cases hin : i < n
          · have hinI : (i : Int) < (n : Int) := by omega
            have hnge : ¬ (i : Int) ≥ (n : Int) := by omega
            have A6' := A6.out
            rw [decide_eq_true hin] at A6'
            have A6t := Lib.hid A6'
            clear A6' A6
            obtain ⟨q, c0, c1, _, cs⟩ := step_o hKj hIj.out.1.ok hsm
            have CS := Lib.hid (cs c A2.out)
            have hok1 := kinv_sent hIj.out.1 A2.out
            have HO1 := Lib.hid hok1
            have HSM := Lib.hid hsm
            clear cs hKj hsm hok1
            go_wp2_with fail
            refine (CS.out _ (by go_grown)).mono ?_
            rintro x w6 ⟨va, vc, rfl, hK6, _, _⟩
            rw [a3, a4, a5]
            obtain ⟨q6, d0, d1, dc, _⟩ := comp_o hK6 HG.out HO1.out.ok ⟨HSM.out.last, HSM.out.now⟩
            have DC := Lib.hid (dc 0 _ t2 A6t.out)
            clear dc hK6
            go_wp2_with fail
            refine (DC.out _ (by go_grown)).mono ?_
            rintro x w7 ⟨rfl, hK7, hc7⟩
            have g6 : w7.heap[w6.heap.size]? = some (.cells #[.bool bw, .int .i64 c.page, .int .i64 1, .slice va 1 vc] 34 (0, 0)) := (hc7.block _ (by simp) (by omega)).trans (World.alloc_heap_new w6 _)
            have HK7 := Lib.hid hK7
            have HC7 := Lib.hid hc7
            clear hK7 hc7
            go_wp2_with fail
            refine (fine_yes _).mono ?_
            rintro x w8 ⟨rfl, hb8⟩
            have hB8 : Below w7.heap.size w7 w8 := (((Below.refl _ _).alloc (Nat.le_refl _) _).trans (hb8.mono (by simp)))
            have g8 := (hB8.block _ (lt_of_heap g6)).trans g6
            have rc0 : w8.cell? ⟨w6.heap.size, 0, none⟩ = some (.bool bw) := cell_of g8 rfl
            have rc2 : w8.cell? ⟨w6.heap.size, 2, none⟩ = some (.int .i64 1) := cell_of g8 rfl
            have rc3 : w8.cell? ⟨w6.heap.size, 3, none⟩ = some (.slice va 1 vc) := cell_of g8 rfl
            have HK8 := Lib.hid (HK7.out.later hB8)
            clear hb8 hB8 g6 g8
            go_wp2_with fail
            obtain ⟨s1, s2, _⟩ := complete_same A6t.out
            go_roundg (4 - (i + 1))
            case measure => omega
            case rel => exact ⟨i + 1, 2 ^ i, f', t2, rfl, by omega, by omega, by rw [(tPow hlt).1], by go_num, (tPow hlt).2, Lib.hid (A8.out hin), HK8.out, Lib.hid ⟨kinv_comp HO1.out A6t.out, by rw [s1]; exact hIj.out.2.1, by rw [s2]; have := hIj.out.2.2; show t'.now ≤ _; omega⟩⟩
          · have hinI : ¬ (i : Int) < (n : Int) := by omega
            have hnge : (n : Int) ≤ (i : Int) := by omega
            have A6' := A6.out
            rw [decide_eq_false hin] at A6'
            have A6t := Lib.hid A6'
            clear A6' A6
            obtain ⟨q, c0, c1, _, cs⟩ := step_o hKj hIj.out.1.ok hsm
            have CS := Lib.hid (cs c A2.out)
            have hok1 := kinv_sent hIj.out.1 A2.out
            have HO1 := Lib.hid hok1
            have HSM := Lib.hid hsm
            clear cs hKj hsm hok1
            go_wp2_with fail
            refine (CS.out _ (by go_grown)).mono ?_
            rintro x w6 ⟨va, vc, rfl, hK6, _, _⟩
            rw [a3, a4, a5]
            obtain ⟨q6, d0, d1, dc, _⟩ := comp_o hK6 HG.out HO1.out.ok ⟨HSM.out.last, HSM.out.now⟩
            have DC := Lib.hid (dc 0 _ t2 A6t.out)
            clear dc hK6
            go_wp2_with fail
            refine (DC.out _ (by go_grown)).mono ?_
            rintro x w7 ⟨rfl, hK7, hc7⟩
            have g6 : w7.heap[w6.heap.size]? = some (.cells #[.bool bw, .int .i64 c.page, .int .i64 1, .slice va 1 vc] 34 (0, 0)) := (hc7.block _ (by simp) (by omega)).trans (World.alloc_heap_new w6 _)
            have HK7 := Lib.hid hK7
            have HC7 := Lib.hid hc7
            clear hK7 hc7
            go_wp2_with fail
            refine (fine_yes _).mono ?_
            rintro x w8 ⟨rfl, hb8⟩
            have hB8 : Below w7.heap.size w7 w8 := (((Below.refl _ _).alloc (Nat.le_refl _) _).trans (hb8.mono (by simp)))
            have g8 := (hB8.block _ (lt_of_heap g6)).trans g6
            have rc0 : w8.cell? ⟨w6.heap.size, 0, none⟩ = some (.bool bw) := cell_of g8 rfl
            have rc2 : w8.cell? ⟨w6.heap.size, 2, none⟩ = some (.int .i64 1) := cell_of g8 rfl
            have rc3 : w8.cell? ⟨w6.heap.size, 3, none⟩ = some (.slice va 1 vc) := cell_of g8 rfl
            have HK8 := Lib.hid (HK7.out.later hB8)
            clear hb8 hB8 g6 g8
            have HKE := HK8
            obtain ⟨s1, s2, _⟩ := complete_same A6t.out
            have HEND : Hid (tEnd bw p n t2 = true) := Lib.hid (A7.out (by omega))
            have HIE : Hid (KInv ⟨rs, t2⟩ ∧ t2.last = 1 ∧ t2.now < 576460752303423488) := Lib.hid ⟨kinv_comp HO1.out A6t.out, by rw [s1]; exact hIj.out.2.1, by rw [s2]; have := hIj.out.2.2; show t'.now < _; omega⟩
            clear s1 s2 hIt
            obtain ⟨qa, f0, f1, fn, _⟩ := step_o HKE.out HIE.out.1.ok (show t2.Small from ⟨by rw [HIE.out.2.1]; decide, by rw [n59]; exact HIE.out.2.2⟩)
            obtain ⟨g1, _, g3, g4⟩ := tEnd_parts HEND.out
            have FN := Lib.hid (fn g1)
            have G := Lib.hid (And.intro g3 g4)
            clear fn g1 g3 g4
            go_wp2_with fail
            refine (FN.out _ (by go_grown)).mono ?_
            rintro x w9 ⟨rfl, hK9, _⟩
            have HK9 := Lib.hid hK9
            clear hK9
            go_wp2_with fail
            refine (poll_o (HK9.out.later (by go_grown)) HG.out HIE.out.1 (show t2.Small from ⟨by rw [HIE.out.2.1]; decide, by rw [n59]; exact HIE.out.2.2⟩) 0 (by rw [← HRS.out]; exact Nat.zero_lt_one)).mono ?_
            rintro x w10 ⟨rfl, hK10⟩
            obtain ⟨r0, z1, z2, z3⟩ := tPoll HEND.out
            rw [HRS.out] at z1
            rw [z1] at hK10
            have Z := Lib.hid (And.intro z2 z3)
            clear z1 z2 z3
            obtain ⟨qb, h0, h1', hd⟩ := disk_o hK10
            have HD := Lib.hid hd
            clear hd hK10
            go_wp2_with fail
            refine (HD.out _ (by go_grown)).mono ?_
            rintro x w11 ⟨dv, rfl, hv, hb11, hK11⟩
            rcases hv.2 with ⟨_, hv0⟩ | ⟨db, cap, cur, rfl, hv1, hv2, hv3, hv4, hv5, hv6⟩
            · simp at hv0
            have hdc : ∀ j, j < 64 → w11.cell? ⟨db, j, none⟩ = some (.int .u8 (t2.disk.getD j 0)) := fun j hj => cell_of hv2 (by
              have e : (t2.disk.map fun b => Value.int .u8 b)[j]? = some (.int .u8 (t2.disk.getD j 0)) := by
                rw [List.getElem?_map, List.getD_eq_getElem?_getD, List.getElem?_eq_getElem (by have := G.out.1; omega)]; rfl
              have hv6' : (t2.disk.map fun b => Value.int .u8 b) = cur.toList.take (64 * 1) := hv6.symm
              rw [hv6', List.getElem?_take_of_lt (by omega)] at e
              rw [← Array.getElem?_toList]; exact e)
            obtain ⟨ra, rc, k0, k1, k2⟩ := hK11.rows
            obtain ⟨gr, rfl, k3, k4, _⟩ := k2 0 r0 rfl
            have k5 : w11.cell? ⟨gr, 3, none⟩ = some (.string r0.data) := k4 3 _ rfl
            have k6 : w11.cell? ⟨gr, 4, none⟩ = some (.int .i64 r0.how) := k4 4 _ rfl
            have HDC := Lib.hid hdc
            have HK11 := Lib.hid hK11
            have HB11 := Lib.hid hb11
            have hdlt := lt_of_heap hv2
            clear hv hv6 hv2 hdc hK11 hb11 k2 k4
            go_wp2_with fail
            refine (pick_any pg 16 _ h2 (by omega)).mono ?_
            rintro x w12 ⟨rfl, rfl⟩
            rw [HP.out]
            have hcv0 : (convert 44 9 (.slice (some ⟨w12.heap.size, 0, none⟩) 4 4)).run Tryd.prog (w12.alloc (.cells #[.int .u8 0, .int .u8 0, .int .u8 0, .int .u8 0] 5)) = .ok (.string (strOfNums [0, 0, 0, 0])) (w12.alloc (.cells #[.int .u8 0, .int .u8 0, .int .u8 0, .int .u8 0] 5)) := by
              refine run_convert_bytes_arg (P := Tryd.prog) _ 44 5 Tryd.underlying44 Tryd.underlying5 w12.heap.size 0 4 4 [0, 0, 0, 0] rfl (fun j hj => ?_) 9 Tryd.underlying9
              rcases j with _ | _ | _ | _ | j <;> first | (simp [World.cell?_alloc_new]; done) | omega
            have hcvd : (convert 44 9 (.slice (some ⟨db, 4 * p, none⟩) 4 (cap - 4 * p))).run Tryd.prog (w12.alloc (.cells #[.int .u8 0, .int .u8 0, .int .u8 0, .int .u8 0] 5)) = .ok (.string (strOfNums [(dget t2.disk (p : Int)).a, (dget t2.disk (p : Int)).b, (dget t2.disk (p : Int)).c, (dget t2.disk (p : Int)).d])) (w12.alloc (.cells #[.int .u8 0, .int .u8 0, .int .u8 0, .int .u8 0] 5)) := by
              refine run_convert_bytes_arg (P := Tryd.prog) _ 44 5 Tryd.underlying44 Tryd.underlying5 db (4 * p) 4 (cap - 4 * p) _ rfl (fun j hj => ?_) 9 Tryd.underlying9
              rw [← tDisk hp16 G.out.1 j hj]
              have := HDC.out (4 * p + j) (by omega)
              exact (World.cell?_of_block (Below.heap_alloc _ _ _ hdlt)).trans this
            have hw4 : IntKind.i64.wrap (4 * (p : Int)) = 4 * (p : Int) := by rw [IntKind.wrap_i64]; omega
            have hw5 : IntKind.i64.wrap (4 * (p : Int) + 4) = 4 * (p : Int) + 4 := by rw [IntKind.wrap_i64]; omega
            obtain ⟨zs, hzs⟩ : ∃ zs, strOfNums [0, 0, 0, 0] = zs := ⟨_, rfl⟩
            rw [G.out.2] at hcvd
            rw [hzs] at hcv0
            by_cases hn4 : n < 4
            · have hn4I : (n : Int) < 4 := by omega
              have k7 : w12.cell? ⟨gr, 4, none⟩ = some (.int .i64 1) := by rw [k6, Z.out.1, if_pos hn4]
              clear k6
              cases bw with
              | true =>
                rw [if_pos ⟨hn4, rfl⟩] at hcvd
                have hrd : r0.data = strOfNums [(askD 9 0).a, (askD 9 0).b, (askD 9 0).c, (askD 9 0).d] := Z.out.2
                rw [← hrd] at hcvd
                clear hrd
                go_wp2_with fail
                go_ret
                exact ⟨rfl, HK11.out.below.alloc HK11.out.below.size _⟩
              | false =>
                rw [if_neg (by simp)] at hcvd
                rw [hzs] at hcvd
                go_wp2_with fail
                go_ret
                exact ⟨rfl, HK11.out.below.alloc HK11.out.below.size _⟩
            · omega
    · obtain rfl : i = 4 := by omega
      obtain rfl : f = 0 := by omega
      have HKE := Lib.hid hKt
      have HEND := hL
      have HIE : Hid (KInv ⟨rs, t⟩ ∧ t.last = 1 ∧ t.now < 576460752303423488) := Lib.hid ⟨hIt.out.1, hIt.out.2.1, by have := hIt.out.2.2; omega⟩
      clear hKt hL hIt
      obtain ⟨qa, f0, f1, fn, _⟩ := step_o HKE.out HIE.out.1.ok (show t.Small from ⟨by rw [HIE.out.2.1]; decide, by rw [n59]; exact HIE.out.2.2⟩)
      obtain ⟨g1, _, g3, g4⟩ := tEnd_parts HEND.out
      have FN := Lib.hid (fn g1)
      have G := Lib.hid (And.intro g3 g4)
      clear fn g1 g3 g4
      go_wp2_with fail
      refine (FN.out _ (by go_grown)).mono ?_
      rintro x w9 ⟨rfl, hK9, _⟩
      have HK9 := Lib.hid hK9
      clear hK9
      go_wp2_with fail
      refine (poll_o (HK9.out.later (by go_grown)) HG.out HIE.out.1 (show t.Small from ⟨by rw [HIE.out.2.1]; decide, by rw [n59]; exact HIE.out.2.2⟩) 0 (by rw [← HRS.out]; exact Nat.zero_lt_one)).mono ?_
      rintro x w10 ⟨rfl, hK10⟩
      obtain ⟨r0, z1, z2, z3⟩ := tPoll HEND.out
      rw [HRS.out] at z1
      rw [z1] at hK10
      have Z := Lib.hid (And.intro z2 z3)
      clear z1 z2 z3
      obtain ⟨qb, h0, h1', hd⟩ := disk_o hK10
      have HD := Lib.hid hd
      clear hd hK10
      go_wp2_with fail
      refine (HD.out _ (by go_grown)).mono ?_
      rintro x w11 ⟨dv, rfl, hv, hb11, hK11⟩
      rcases hv.2 with ⟨_, hv0⟩ | ⟨db, cap, cur, rfl, hv1, hv2, hv3, hv4, hv5, hv6⟩
      · simp at hv0
      have hdc : ∀ j, j < 64 → w11.cell? ⟨db, j, none⟩ = some (.int .u8 (t.disk.getD j 0)) := fun j hj => cell_of hv2 (by
        have e : (t.disk.map fun b => Value.int .u8 b)[j]? = some (.int .u8 (t.disk.getD j 0)) := by
          rw [List.getElem?_map, List.getD_eq_getElem?_getD, List.getElem?_eq_getElem (by have := G.out.1; omega)]; rfl
        have hv6' : (t.disk.map fun b => Value.int .u8 b) = cur.toList.take (64 * 1) := hv6.symm
        rw [hv6', List.getElem?_take_of_lt (by omega)] at e
        rw [← Array.getElem?_toList]; exact e)
      obtain ⟨ra, rc, k0, k1, k2⟩ := hK11.rows
      obtain ⟨gr, rfl, k3, k4, _⟩ := k2 0 r0 rfl
      have k5 : w11.cell? ⟨gr, 3, none⟩ = some (.string r0.data) := k4 3 _ rfl
      have k6 : w11.cell? ⟨gr, 4, none⟩ = some (.int .i64 r0.how) := k4 4 _ rfl
      have HDC := Lib.hid hdc
      have HK11 := Lib.hid hK11
      have HB11 := Lib.hid hb11
      have hdlt := lt_of_heap hv2
      clear hv hv6 hv2 hdc hK11 hb11 k2 k4
      go_wp2_with fail
      refine (pick_any pg 16 _ h2 (by omega)).mono ?_
      rintro x w12 ⟨rfl, rfl⟩
      rw [HP.out]
      have hcv0 : (convert 44 9 (.slice (some ⟨w12.heap.size, 0, none⟩) 4 4)).run Tryd.prog (w12.alloc (.cells #[.int .u8 0, .int .u8 0, .int .u8 0, .int .u8 0] 5)) = .ok (.string (strOfNums [0, 0, 0, 0])) (w12.alloc (.cells #[.int .u8 0, .int .u8 0, .int .u8 0, .int .u8 0] 5)) := by
        refine run_convert_bytes_arg (P := Tryd.prog) _ 44 5 Tryd.underlying44 Tryd.underlying5 w12.heap.size 0 4 4 [0, 0, 0, 0] rfl (fun j hj => ?_) 9 Tryd.underlying9
        rcases j with _ | _ | _ | _ | j <;> first | (simp [World.cell?_alloc_new]; done) | omega
      have hcvd : (convert 44 9 (.slice (some ⟨db, 4 * p, none⟩) 4 (cap - 4 * p))).run Tryd.prog (w12.alloc (.cells #[.int .u8 0, .int .u8 0, .int .u8 0, .int .u8 0] 5)) = .ok (.string (strOfNums [(dget t.disk (p : Int)).a, (dget t.disk (p : Int)).b, (dget t.disk (p : Int)).c, (dget t.disk (p : Int)).d])) (w12.alloc (.cells #[.int .u8 0, .int .u8 0, .int .u8 0, .int .u8 0] 5)) := by
        refine run_convert_bytes_arg (P := Tryd.prog) _ 44 5 Tryd.underlying44 Tryd.underlying5 db (4 * p) 4 (cap - 4 * p) _ rfl (fun j hj => ?_) 9 Tryd.underlying9
        rw [← tDisk hp16 G.out.1 j hj]
        have := HDC.out (4 * p + j) (by omega)
        exact (World.cell?_of_block (Below.heap_alloc _ _ _ hdlt)).trans this
      have hw4 : IntKind.i64.wrap (4 * (p : Int)) = 4 * (p : Int) := by rw [IntKind.wrap_i64]; omega
      have hw5 : IntKind.i64.wrap (4 * (p : Int) + 4) = 4 * (p : Int) + 4 := by rw [IntKind.wrap_i64]; omega
      obtain ⟨zs, hzs⟩ : ∃ zs, strOfNums [0, 0, 0, 0] = zs := ⟨_, rfl⟩
      rw [G.out.2] at hcvd
      rw [hzs] at hcv0
      by_cases hn4 : n < 4
      · have hn4I : (n : Int) < 4 := by omega
        have k7 : w12.cell? ⟨gr, 4, none⟩ = some (.int .i64 1) := by rw [k6, Z.out.1, if_pos hn4]
        clear k6
        cases bw with
        | true =>
          rw [if_pos ⟨hn4, rfl⟩] at hcvd
          have hrd : r0.data = strOfNums [(askD 9 0).a, (askD 9 0).b, (askD 9 0).c, (askD 9 0).d] := Z.out.2
          rw [← hrd] at hcvd
          clear hrd
          go_wp2_with fail
          go_ret
          exact ⟨rfl, HK11.out.below.alloc HK11.out.below.size _⟩
        | false =>
          rw [if_neg (by simp)] at hcvd
          rw [hzs] at hcvd
          go_wp2_with fail
          go_ret
          exact ⟨rfl, HK11.out.below.alloc HK11.out.below.size _⟩
      · have hn4I : ¬ (n : Int) < 4 := by omega
        have k7 : w12.cell? ⟨gr, 4, none⟩ = some (.int .i64 2) := by rw [k6, Z.out.1, if_neg hn4]
        rw [if_neg (fun hh => hn4 hh.1), hzs] at hcvd
        clear k6
        go_wp2_with fail
        go_ret
        exact ⟨rfl, HK11.out.below.alloc HK11.out.below.size _⟩
end Go.Proofs.YticobikhndlejaaDoor
