/- elevatorkeep.Swept by contract: it answers true. -/
import Derived.Test.YticobikhndlejaaDoorKOwn
import Derived.Test.YticobikhndlejaaDoorSweptP
namespace Go.Proofs.YticobikhndlejaaDoor
open Go.RowKit Go.Shelf Go.Lib

set_option maxRecDepth 100000 in
set_option maxHeartbeats 1000000 in
theorem swept_true (hd : Int) (s : ByteArray) (w : World) (hg : ErrVar w) (h1 : -9223372036854775808 ≤ hd ∧ hd ≤ 9223372036854775807) (_hsz : s.size ≤ maxLen) :
    Calls Tryd.prog 4 #[.int .i64 hd, .string s] w fun x w' => x = .returned (.bool true) ∧ Below w.heap.size w w' := by
  have hp := pickI_lt hd (n := 16) (by omega)
  obtain ⟨h, hh⟩ : ∃ h, pickI hd 16 = h := ⟨_, rfl⟩
  rw [hh] at hp
  obtain ⟨c0, t0, hb1, hb2, hb3, hb4⟩ := sw_begin hp
  have hok0 : ((St.new 1).add false h ⟨0, 0, 0, 0⟩).Ok := ok_add (ok_new (by omega)) (by simp [St.new]) false h hp _ b0_ok
  have hsm0 : ((St.new 1).add false h ⟨0, 0, 0, 0⟩).Small := ⟨by simp [St.new, St.add], by simp only [St.new, St.add]; decide⟩
  have hsame := complete_same hb2
  have HG := Lib.hid hg
  have HOK0 := Lib.hid hok0
  have HSM0 := Lib.hid hsm0
  have HB1 := Lib.hid hb1
  have HB2 := Lib.hid hb2
  have HB3 := Lib.hid hb3
  have HB4 := Lib.hid hb4
  have HOS := Lib.hid (ok_sent hok0 hb1)
  have HSA := Lib.hid hsame
  clear hg hok0 hsm0 hb1 hb2 hb3 hb4 hsame
  go_enter Tryd.func4, Tryd.ntmps4
  go_wp2_with fail
  refine (begun_k 0 w HG.out (by omega)).mono ?_
  rintro x w1 ⟨wo, rfl, hK⟩
  have HK := Lib.hid (show KOwn w w1 wo (St.new 1) 0 from hK)
  clear hK
  go_wp2_with fail
  refine (pick_any hd 16 _ h1 (by omega)).mono ?_
  rintro x w2 ⟨rfl, rfl⟩
  rw [hh]
  go_wp2_with fail
  refine (ask_r HK.out HG.out (ok_new (by omega)) ⟨by simp [St.new], by simp only [St.new]; decide⟩ (by simp [St.new]) h 0 hp (by simp [St.new])).mono ?_
  rintro x w3 ⟨rfl, hK3⟩
  obtain ⟨q3, d0, d1, _, hst⟩ := step_ka hK3 HOK0.out HSM0.out
  have HST := Lib.hid (hst c0 HB1.out)
  have HK3 := Lib.hid hK3
  clear hK3 hst
  go_wp2_with fail
  refine (HST.out _ (Below.refl _ _)).mono ?_
  rintro x w4 ⟨va, vc, rfl, hK4⟩
  obtain ⟨q4, d2, d3, hcm⟩ := complete_ka hK4 HG.out HOS.out ⟨HSM0.out.last, HSM0.out.now⟩ 0 false HB2.out
  have HCM := Lib.hid hcm
  clear hK4 hcm
  go_wp2_with fail
  refine (HCM.out _ (Below.refl _ _)).mono ?_
  rintro x w5 ⟨rfl, hK5⟩
  have HK5 := Lib.hid hK5
  clear hK5
  go_wp2_with fail
  go_loopg [6, 8] 39 (fun kk ok iv wx => ∃ (i : Nat) (t : St), kk = 39 - i ∧ i ≤ 39 ∧ ok = .bool true ∧ iv = .int .i64 i ∧ KOwn w wx wo t (i + 1) ∧ Hid (Sw h h false t ∧ (waitL t).length = i ∧ t.last = i + 1 ∧ t.held = i + 1 ∧ t.now = 0))
  case atStart =>
    refine ⟨0, t0, by simp, by omega, rfl, rfl, HK5.out, Lib.hid ⟨HB3.out, HB4.out, ?_, ?_, ?_⟩⟩
    · rw [HSA.out.1]; simp [St.sent, St.add, St.new]
    · rw [HSA.out.2.2]; simp [St.sent, St.add, St.new]
    · rw [HSA.out.2.1]; simp [St.sent, St.add, St.new]
  case round =>
    obtain ⟨i, t, rfl, hi, rfl, rfl, hKi, hS⟩ := hrel
    have hsm : t.Small := ⟨by have := hS.out.2.2.1; omega, by rw [hS.out.2.2.2.2]; decide⟩
    by_cases hlt : i < s.size ∧ i < 39
    · obtain ⟨hl1, hl2⟩ := hlt
      have g1 : (i : Int) < (s.size : Int) := by omega
      have g2 : (i : Int) < 39 := by omega
      have g0 : (0 : Int) ≤ (i : Int) := by omega
      obtain ⟨b, hb⟩ : ∃ b : UInt8, s[i] = b := ⟨_, rfl⟩
      have hbn := b.toNat_lt
      have hpb : (0 : Int) ≤ (b.toNat : Int) % 16 ∧ (b.toNat : Int) % 16 < 16 := by omega
      have HKi := Lib.hid hKi
      clear hKi
      go_wp2_with fail
      refine (ask_r HKi.out HG.out hS.out.1.ok hsm (by have := hS.out.2.2.2.1; omega) _ 0 hpb (by have := hS.out.2.2.1; omega)).mono ?_
      rintro x w6 ⟨rfl, hK6⟩
      have HK6 := Lib.hid hK6
      clear hK6
      go_wp2_with fail
      go_roundg (39 - (i + 1))
      case measure => omega
      case rel =>
        refine ⟨i + 1, t.add false ((b.toNat : Int) % 16) ⟨0, 0, 0, 0⟩, rfl, by omega, rfl, by go_num, HK6.out, Lib.hid ⟨sw_ask hS.out.1 (by have := hS.out.2.2.2.1; omega) hpb, by rw [waitL_add, hS.out.2.1], ?_, ?_, hS.out.2.2.2.2⟩⟩
        · have := hS.out.2.2.1; simp only [St.add]; omega
        · have := hS.out.2.2.2.1; simp only [St.add]; omega
    · have hcase : (¬ (i : Int) < (s.size : Int)) ∨ ((i : Int) < (s.size : Int) ∧ ¬ (i : Int) < 39) := by omega
      have HKi := Lib.hid hKi
      clear hKi hlt
      rcases hcase with g1 | ⟨g1, g2⟩
      all_goals
        go_wp2_with fail
        obtain ⟨W0, rfl⟩ : ∃ x, x = wr := ⟨_, rfl⟩
        go_loopg [9, 10, 11, 12] 40 (fun kk lv tv dv iv wx => ∃ (l : Int) (tb : Bool) (d j : Nat) (t : St), kk = 40 - j ∧ j ≤ d ∧ d ≤ i ∧ lv = .int .i64 l ∧ tv = .bool tb ∧ dv = .int .i64 d ∧ iv = .int .i64 j ∧ KOwn w wx wo t (i + 1) ∧ Hid (Sw h l tb t ∧ d + (waitL t).length = i ∧ t.last = i + 1 ∧ t.now = 0))
        case atStart => exact ⟨h, false, 0, 0, t, rfl, by omega, by omega, rfl, rfl, rfl, rfl, HKi.out, Lib.hid ⟨hS.out.1, by rw [hS.out.2.1]; omega, hS.out.2.2.1, hS.out.2.2.2.2⟩⟩
        case round =>
          obtain ⟨l, tb, d, j, t, rfl, hj, hdi, rfl, rfl, rfl, rfl, hKt, hS2⟩ := hrel
          have hsm : t.Small := ⟨by have := hS2.out.2.2.1; omega, by rw [hS2.out.2.2.2]; decide⟩
          have hj40 : (j : Int) < 40 := by omega
          obtain ⟨q5, u0, u1, hn5, hs5⟩ := step_ka hKt hS2.out.1.ok hsm
          have HKt := Lib.hid hKt
          clear hKt
          cases hc : t.cmd with
          | none =>
            have HN5 := Lib.hid (hn5 hc)
            have hwl := rd_none hS2.out.1.ok hS2.out.1.rd hc
            have hdi2 : d = i := by have := hS2.out.2.1; rw [hwl] at this; simpa using this
            subst hdi2
            clear hn5 hs5 hc hwl
            go_wp2_with fail
            refine (HN5.out _ (Below.refl _ _)).mono ?_
            rintro x w6 ⟨rfl, hK6⟩
            obtain ⟨ra, rc, v1, v2⟩ := hK6.len
            have HK6 := Lib.hid hK6
            have y1 : IntKind.i64.wrap ((d : Int) + 1 - 1) = (d : Int) := by rw [IntKind.wrap_i64]; omega
            clear hK6
            go_wp2_with fail
            go_ret
            exact ⟨rfl, HK6.out.below.alloc HK6.out.below.size _⟩
          | some c =>
            obtain ⟨hcw, hn1, t', hc6, hn2, hA, hB⟩ := sw_step hS2.out.1 hc
            have hC := rd_cmd hS2.out.1.ok hS2.out.1.rd hc
            have hpg := hC.page
            have hft := hC.fits
            have hcn := hC.count
            have HST2 := Lib.hid (hs5 c hc)
            have HC6 := Lib.hid hc6
            have HO6 := Lib.hid (ok_sent hS2.out.1.ok hc)
            have HT6 := Lib.hid (complete_same hc6)
            have HN6 := Lib.hid (And.intro hn2 hn1)
            have HA := Lib.hid hA
            have HB := Lib.hid hB
            have hnl : c.nums.length ≤ 39 := by have := hS2.out.2.1; omega
            have y1 : IntKind.i64.wrap ((c.page : Int) + (c.count : Int)) = (c.page : Int) + (c.count : Int) := by rw [IntKind.wrap_i64]; omega
            have y2 : IntKind.i64.wrap ((c.page : Int) + (c.count : Int) - 1) = (c.page : Int) + (c.count : Int) - 1 := by rw [IntKind.wrap_i64]; omega
            have y3 : IntKind.i64.wrap ((d : Int) + (c.nums.length : Int)) = ((d + c.nums.length : Nat) : Int) := by rw [IntKind.wrap_i64]; omega
            clear hn5 hs5 hc hc6 hn2 hn1 hA hB hC
            by_cases hle : (c.page : Int) ≤ l
            · obtain ⟨rfl, hph, hsw⟩ := HA.out hle
              have hph2 : ¬ (c.page : Int) > h := by omega
              have HSW := Lib.hid hsw
              clear hsw
              go_wp2_with fail
              refine (HST2.out _ (Below.refl _ _)).mono ?_
              rintro x w6 ⟨va6, vc6, rfl, hK6⟩
              obtain ⟨q6, u2, u3, hcm⟩ := complete_ka hK6 HG.out HO6.out ⟨hsm.last, hsm.now⟩ 0 false HC6.out
              have HCM6 := Lib.hid hcm
              clear hK6 hcm
              go_wp2_with fail
              refine (HCM6.out _ (by go_grown)).mono ?_
              rintro x w7 ⟨rfl, hK7⟩
              have HK7 := Lib.hid hK7
              clear hK7
              go_wp2_with fail
              go_roundg (40 - (j + 1))
              case measure => omega
              case rel => exact ⟨(c.page : Int) + c.count - 1, true, d + c.nums.length, j + 1, t', rfl, by have := HN6.out.2; omega, by have := HN6.out.1; have := hS2.out.2.1; omega, rfl, rfl, by go_num, by go_num, HK7.out, Lib.hid ⟨HSW.out, by have := HN6.out.1; have := hS2.out.2.1; omega, by rw [HT6.out.1]; exact hS2.out.2.2.1, by rw [HT6.out.2.1]; exact hS2.out.2.2.2⟩⟩
            · have hgt : l < (c.page : Int) := by omega
              obtain ⟨hth, hsw⟩ := HB.out hgt
              have HSW := Lib.hid hsw
              clear hsw
              cases tb with
              | true =>
                have hph2 : ¬ (c.page : Int) > h := by have := hth rfl; omega
                go_wp2_with fail
                refine (HST2.out _ (Below.refl _ _)).mono ?_
                rintro x w6 ⟨va6, vc6, rfl, hK6⟩
                obtain ⟨q6, u2, u3, hcm⟩ := complete_ka hK6 HG.out HO6.out ⟨hsm.last, hsm.now⟩ 0 false HC6.out
                have HCM6 := Lib.hid hcm
                clear hK6 hcm
                go_wp2_with fail
                refine (HCM6.out _ (by go_grown)).mono ?_
                rintro x w7 ⟨rfl, hK7⟩
                have HK7 := Lib.hid hK7
                clear hK7
                go_wp2_with fail
                go_roundg (40 - (j + 1))
                case measure => omega
                case rel => exact ⟨(c.page : Int) + c.count - 1, true, d + c.nums.length, j + 1, t', rfl, by have := HN6.out.2; omega, by have := HN6.out.1; have := hS2.out.2.1; omega, rfl, rfl, by go_num, by go_num, HK7.out, Lib.hid ⟨HSW.out, by have := HN6.out.1; have := hS2.out.2.1; omega, by rw [HT6.out.1]; exact hS2.out.2.2.1, by rw [HT6.out.2.1]; exact hS2.out.2.2.2⟩⟩
              | false =>
                go_wp2_with fail
                refine (HST2.out _ (Below.refl _ _)).mono ?_
                rintro x w6 ⟨va6, vc6, rfl, hK6⟩
                obtain ⟨q6, u2, u3, hcm⟩ := complete_ka hK6 HG.out HO6.out ⟨hsm.last, hsm.now⟩ 0 false HC6.out
                have HCM6 := Lib.hid hcm
                clear hK6 hcm
                go_wp2_with fail
                refine (HCM6.out _ (by go_grown)).mono ?_
                rintro x w7 ⟨rfl, hK7⟩
                have HK7 := Lib.hid hK7
                clear hK7
                go_wp2_with fail
                go_roundg (40 - (j + 1))
                case measure => omega
                case rel => exact ⟨(c.page : Int) + c.count - 1, false, d + c.nums.length, j + 1, t', rfl, by have := HN6.out.2; omega, by have := HN6.out.1; have := hS2.out.2.1; omega, rfl, rfl, by go_num, by go_num, HK7.out, Lib.hid ⟨HSW.out, by have := HN6.out.1; have := hS2.out.2.1; omega, by rw [HT6.out.1]; exact hS2.out.2.2.1, by rw [HT6.out.2.1]; exact hS2.out.2.2.2⟩⟩
end Go.Proofs.YticobikhndlejaaDoor
