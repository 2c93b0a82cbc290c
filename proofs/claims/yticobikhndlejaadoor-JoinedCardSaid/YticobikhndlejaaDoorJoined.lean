/- elevatorkeep.Joined by contract: it answers true. -/
import Derived.Test.YticobikhndlejaaDoorKOwn
import Derived.Test.YticobikhndlejaaDoorJoinD
namespace Go.Proofs.YticobikhndlejaaDoor
open Go.RowKit Go.Shelf Go.Lib

set_option maxRecDepth 100000 in
set_option maxHeartbeats 1000000 in
theorem joined_true (fr n wrt : Int) (w : World) (hg : ErrVar w) (h1 : -9223372036854775808 ≤ fr ∧ fr ≤ 9223372036854775807) (h2 : -9223372036854775808 ≤ n ∧ n ≤ 9223372036854775807) (h3 : -9223372036854775808 ≤ wrt ∧ wrt ≤ 9223372036854775807) :
    Calls Tryd.prog 5 #[.int .i64 fr, .int .i64 n, .int .i64 wrt] w fun x w' => x = .returned (.bool true) ∧ Below w.heap.size w w' := by
  have hpa := pickI_lt fr (n := 16) (by omega)
  obtain ⟨a, ha⟩ : ∃ a : Nat, pickI fr 16 = (a : Int) := ⟨(pickI fr 16).toNat, by omega⟩
  have hpn := pickI_lt n (n := 16 - (a : Int)) (by omega)
  obtain ⟨count, hcnt⟩ : ∃ c : Nat, 1 + pickI n (16 - (a : Int)) = (c : Int) := ⟨(1 + pickI n (16 - (a : Int))).toNat, by omega⟩
  have hc16 : 1 ≤ count ∧ a + count ≤ 16 := by omega
  have ha16 : a < 16 := by omega
  obtain ⟨bw, hwr⟩ : ∃ bw, (pickI wrt 2 == 1) = bw := ⟨_, rfl⟩
  have w1 : IntKind.i64.wrap (16 - (a : Int)) = 16 - (a : Int) := by rw [IntKind.wrap_i64]; omega
  have w2 : IntKind.i64.wrap (1 + pickI n (16 - (a : Int))) = (count : Int) := by rw [IntKind.wrap_i64]; omega
  have w3 : IntKind.i64.wrap ((count : Int) - 1) = (count : Int) - 1 := by rw [IntKind.wrap_i64]; omega
  have hsim := jSim_true bw ha16 hc16
  have HSIM := Lib.hid hsim
  have HG := Lib.hid hg
  have HC := Lib.hid hcnt
  clear hsim hg hpa hpn hcnt
  go_enter Tryd.func5, Tryd.ntmps5
  go_wp2_with fail
  refine (begun_k 0 w HG.out (by omega)).mono ?_
  rintro x w1' ⟨wo, rfl, hK⟩
  have HK := Lib.hid hK
  clear hK
  go_wp2_with fail
  refine (pick_any wrt 2 _ h3 (by omega)).mono ?_
  rintro x w2' ⟨rfl, rfl⟩
  go_wp2_with fail
  refine (pick_any fr 16 _ h1 (by omega)).mono ?_
  rintro x w3' ⟨rfl, rfl⟩
  rw [ha]
  go_wp2_with fail
  refine (pick_any n (16 - (a : Int)) _ h2 (by omega)).mono ?_
  rintro x w4' ⟨rfl, rfl⟩
  go_wp2_with fail
  have HK0 := HK
  go_loopg [8, 12] count (fun kk ok i wx => ∃ (j : Nat) (ii : Int), kk = count - j ∧ j ≤ count ∧ ok = .bool true ∧ i = .int .i64 ii ∧ ii = (count : Int) - 1 - j ∧ KOwn w wx wo (jAsks bw a count j) (if bw then j else 2 * j))
  case atStart => exact ⟨0, (count : Int) - 1, by simp, Nat.zero_le _, rfl, rfl, by simp, by cases bw <;> exact HK0.out⟩
  case round =>
    obtain ⟨j, ii, rfl, hj, rfl, rfl, hii, hKr⟩ := hrel
    by_cases hlt : j < count
    · obtain ⟨i', hi'⟩ : ∃ i' : Nat, count - 1 - j = i' := ⟨_, rfl⟩
      obtain rfl : ii = (i' : Int) := by omega
      have hi16 : i' < 16 := by omega
      have x1 : IntKind.i64.wrap ((a : Int) + (i' : Int)) = (a : Int) + (i' : Int) := by rw [IntKind.wrap_i64]; omega
      have x2 : IntKind.u8.wrap (i' : Int) = (i' : Int) := by rw [IntKind.wrap_u8]; omega
      have x3 : IntKind.i64.wrap ((i' : Int) - 1) = (i' : Int) - 1 := by rw [IntKind.wrap_i64]; omega
      have hpg : (0 : Int) ≤ (a : Int) + (i' : Int) ∧ (a : Int) + (i' : Int) < 16 := by omega
      obtain ⟨ho, hl, hh, hnow⟩ := jAsks_ok bw hc16 j (by omega)
      have hsm : (jAsks bw a count j).Small := ⟨by rw [hl]; split <;> omega, by rw [hnow]; decide⟩
      have hnx : jAsks bw a count (j + 1) = jAsk bw ((a : Int) + (i' : Int)) i' j (jAsks bw a count j) := by
        show jAsk bw _ _ j _ = _
        rw [hi']
        congr 1
      have HO := Lib.hid ho
      have HSM := Lib.hid hsm
      have HL := Lib.hid hl
      have HH := Lib.hid hh
      have HNX := Lib.hid hnx
      have HKr := Lib.hid hKr
      have HI := Lib.hid hi'
      clear ho hsm hl hh hnx hKr hnow hii hi'
      cases bw with
      | true =>
        go_wp2_with fail
        refine (ask_w HKr.out HG.out HO.out HSM.out (by have := HH.out; simp at this; omega) _ (i' : Int) hpg (by have := HL.out; simpa using this) (by omega)).mono ?_
        rintro x w5 ⟨rfl, hK5⟩
        have HK5 := Lib.hid hK5
        clear hK5
        go_wp2_with fail
        go_roundg (count - (j + 1))
        case measure => omega
        case rel => exact ⟨j + 1, (i' : Int) - 1, rfl, by omega, rfl, rfl, by have := HI.out; omega, by rw [HNX.out]; exact HK5.out⟩
      | false =>
        have hhj : (jAsks false a count j).held < 39 := by have := HH.out; simp at this; omega
        have hok2 := ok_add HO.out (by omega) false ((a : Int) + (i' : Int)) hpg _ b0_ok
        have hlj := HL.out
        simp at hlj
        go_wp2_with fail
        refine (ask_r HKr.out HG.out HO.out HSM.out (by omega) _ (i' : Int) hpg (by simpa using hlj)).mono ?_
        rintro x w5 ⟨rfl, hK5⟩
        have HK5 := Lib.hid hK5
        clear hK5
        go_wp2_with fail
        refine (ask_r HK5.out HG.out hok2 ⟨by simp only [St.add]; have := HSM.out.last; omega, HSM.out.now⟩ (by simp only [St.add]; omega) _ 0 hpg (by simp only [St.add]; simp; omega)).mono ?_
        rintro x w6 ⟨rfl, hK6⟩
        have HK6 := Lib.hid hK6
        clear hK6
        go_wp2_with fail
        go_roundg (count - (j + 1))
        case measure => omega
        case rel => exact ⟨j + 1, (i' : Int) - 1, rfl, by omega, rfl, rfl, by have := HI.out; omega, by rw [HNX.out]; have := HK6.out; simp only [Bool.false_eq_true, if_false] at this ⊢; exact this⟩
    · obtain rfl : j = count := by omega
      obtain rfl : ii = -1 := by omega
      have HKr := Lib.hid hKr
      clear hKr hii
      go_wp2_with fail
      obtain ⟨ho, hl, hh, hnow⟩ := jAsks_ok bw hc16 j (by omega)
      have HO := Lib.hid ho
      have HL := Lib.hid hl
      have HNW := Lib.hid hnow
      clear ho hl hh hnow
      obtain ⟨W0, rfl⟩ : ∃ x, x = wr := ⟨_, rfl⟩
      go_loopg [13] j (fun kk lv wx => ∃ (f left : Nat) (t : St), kk = left ∧ left ≤ j ∧ lv = .int .i64 left ∧ Hid (jLoop bw a j f left t = true) ∧ KOwn w wx wo t (if bw then j else 2 * j) ∧ Hid (t.Ok ∧ t.last ≤ 32 ∧ t.now = 0))
      case atStart =>
        refine ⟨17, j, _, rfl, Nat.le_refl _, rfl, Lib.hid (HSIM.out), HKr.out, Lib.hid ⟨HO.out, ?_, HNW.out⟩⟩
        have := HL.out
        rw [this]; split <;> omega
      case round =>
        obtain ⟨f, left, t, hkl, hle, rfl, hJ, hKt, hOk⟩ := hrel
        have hsm : t.Small := ⟨by have := hOk.out.2.1; omega, by rw [hOk.out.2.2]; decide⟩
        by_cases hl0 : left = 0
        · subst hl0
          obtain ⟨q, d0, F, hQ, hF, hput⟩ := hKt.cell
          have hnone : t.cmd = none := by
            have := hJ.out
            cases f with
            | zero => simp [jLoop] at this
            | succ f => simpa [jLoop] using this
          have HS := Lib.hid (step_none_c hQ hOk.out.1 hnone)
          have HKt := Lib.hid hKt
          clear hQ hF hput hKt
          go_wp2_with fail
          refine HS.out.mono ?_
          rintro x w5 ⟨rfl, hB5⟩
          have HB5 := Lib.hid hB5
          clear hB5
          go_wp2_with fail
          go_ret
          have hz := HKt.out.below.size
          exact ⟨rfl, (HKt.out.below.trans (HB5.out.mono hz)).alloc (Nat.le_trans hz HB5.out.size) _⟩
        · obtain ⟨f', c, t', hc1, hc2, hc3, hc4, hc5, hc6, hc7⟩ := jLoop_step hJ.out hl0
          obtain ⟨q, d0, F, hQ, hF, hput⟩ := hKt.cell
          have hlt : (0 : Int) < (left : Int) := by omega
          have hok1 := ok_sent hOk.out.1 hc1
          have hok2 := ok_complete hok1 hc6
          obtain ⟨sm1, sm2, _⟩ := complete_same hc6
          have HS := Lib.hid (step_k hQ hF hput hOk.out.1 hsm c hc1)
          have HC6 := Lib.hid hc6
          have HJ7 := Lib.hid hc7
          have HO1 := Lib.hid hok1
          have HO2 := Lib.hid hok2
          have HSM := Lib.hid (And.intro sm1 sm2)
          obtain ⟨m, hm⟩ : ∃ m, min left 4 = m := ⟨_, rfl⟩
          rw [hm] at hc3 hc4 HJ7
          have hpgI : (c.page : Int) = (a : Int) + (j : Int) - (left : Int) := by omega
          have y1 : IntKind.i64.wrap ((a : Int) + (j : Int)) = (a : Int) + (j : Int) := by rw [IntKind.wrap_i64]; omega
          have y2 : IntKind.i64.wrap ((a : Int) + (j : Int) - (left : Int)) = (a : Int) + (j : Int) - (left : Int) := by rw [IntKind.wrap_i64]; omega
          have y3 : IntKind.i64.wrap (2 * (m : Int)) = 2 * (m : Int) := by rw [IntKind.wrap_i64]; omega
          have y4 : IntKind.i64.wrap ((left : Int) - (m : Int)) = ((left - m : Nat) : Int) := by rw [IntKind.wrap_i64]; omega
          have HKt := Lib.hid hKt
          have HL4 := Lib.hid hm
          clear hQ hF hput hKt hc6 hc7 hok1 hok2 sm1 sm2 hc1 hc2
          by_cases h4 : left > 4
          · have hm4 : m = 4 := by omega
            subst hm4
            have h4I : (4 : Int) < (left : Int) := by omega
            cases bw with
            | true =>
              go_wp2_with fail
              refine HS.out.mono ?_
              rintro x w5 ⟨va, vc, rfl, hK5⟩
              obtain ⟨q5, e0, e1, hcmp⟩ := complete_ka hK5 HG.out HO1.out ⟨hsm.last, hsm.now⟩ 0 false HC6.out
              have HCM := Lib.hid hcmp
              clear hK5 hcmp
              go_wp2_with fail
              refine (HCM.out _ (by go_grown)).mono ?_
              rintro x w6 ⟨rfl, hK6⟩
              have HK6 := Lib.hid hK6
              clear hK6
              go_wp2_with fail
              go_roundg (left - 4)
              case measure => omega
              case rel => exact ⟨f', left - 4, t', rfl, by omega, by go_num, Lib.hid HJ7.out, HK6.out, Lib.hid ⟨HO2.out, by rw [HSM.out.1]; exact hOk.out.2.1, by rw [HSM.out.2]; exact hOk.out.2.2⟩⟩
            | false =>
              go_wp2_with fail
              refine HS.out.mono ?_
              rintro x w5 ⟨va, vc, rfl, hK5⟩
              obtain ⟨q5, e0, e1, hcmp⟩ := complete_ka hK5 HG.out HO1.out ⟨hsm.last, hsm.now⟩ 0 false HC6.out
              have HCM := Lib.hid hcmp
              clear hK5 hcmp
              go_wp2_with fail
              refine (HCM.out _ (by go_grown)).mono ?_
              rintro x w6 ⟨rfl, hK6⟩
              have HK6 := Lib.hid hK6
              clear hK6
              go_wp2_with fail
              go_roundg (left - 4)
              case measure => omega
              case rel => exact ⟨f', left - 4, t', rfl, by omega, by go_num, Lib.hid HJ7.out, HK6.out, Lib.hid ⟨HO2.out, by rw [HSM.out.1]; exact hOk.out.2.1, by rw [HSM.out.2]; exact hOk.out.2.2⟩⟩
          · have hm4 : m = left := by omega
            subst hm4
            have h4I : ¬ (4 : Int) < (m : Int) := by omega
            cases bw with
            | true =>
              go_wp2_with fail
              refine HS.out.mono ?_
              rintro x w5 ⟨va, vc, rfl, hK5⟩
              obtain ⟨q5, e0, e1, hcmp⟩ := complete_ka hK5 HG.out HO1.out ⟨hsm.last, hsm.now⟩ 0 false HC6.out
              have HCM := Lib.hid hcmp
              clear hK5 hcmp
              go_wp2_with fail
              refine (HCM.out _ (by go_grown)).mono ?_
              rintro x w6 ⟨rfl, hK6⟩
              have HK6 := Lib.hid hK6
              clear hK6
              go_wp2_with fail
              go_roundg (m - m)
              case measure => omega
              case rel => exact ⟨f', m - m, t', rfl, by omega, by go_num, Lib.hid HJ7.out, HK6.out, Lib.hid ⟨HO2.out, by rw [HSM.out.1]; exact hOk.out.2.1, by rw [HSM.out.2]; exact hOk.out.2.2⟩⟩
            | false =>
              go_wp2_with fail
              refine HS.out.mono ?_
              rintro x w5 ⟨va, vc, rfl, hK5⟩
              obtain ⟨q5, e0, e1, hcmp⟩ := complete_ka hK5 HG.out HO1.out ⟨hsm.last, hsm.now⟩ 0 false HC6.out
              have HCM := Lib.hid hcmp
              clear hK5 hcmp
              go_wp2_with fail
              refine (HCM.out _ (by go_grown)).mono ?_
              rintro x w6 ⟨rfl, hK6⟩
              have HK6 := Lib.hid hK6
              clear hK6
              go_wp2_with fail
              go_roundg (m - m)
              case measure => omega
              case rel => exact ⟨f', m - m, t', rfl, by omega, by go_num, Lib.hid HJ7.out, HK6.out, Lib.hid ⟨HO2.out, by rw [HSM.out.1]; exact hOk.out.2.1, by rw [HSM.out.2]; exact hOk.out.2.2⟩⟩
end Go.Proofs.YticobikhndlejaaDoor
