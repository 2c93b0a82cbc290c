/- elevatorkeep.Given by contract: it answers true. -/
import Derived.Test.YticobikhndlejaaGreatDoorGxU
import Derived.Test.YticobikhndlejaaGreatDoorGxV
import Derived.Test.YticobikhndlejaaGreatDoorGxQ
import Derived.Deep.Cut
import Derived.Deep.CutRange
import Derived.StillTailTactics
import Derived.BigQuiet
import Derived.Test.YticobikhndlejaaGreatDoorGxD
import Derived.ChangeSame
import Derived.ChangeVars
import Derived.JoinedOf
import Derived.RowKit
import Derived.RowKitTokens
import Derived.LaidLaws
import Derived.LaidHandle
import Derived.Stop.Joined
namespace Go.Proofs.YticobikhndlejaaGreatDoor
open Go.RowKit Go.Shelf Go.Lib

/-- A page, and whether it is written, out of a byte. -/
theorem byte_parts (b : Nat) (hb : b ≤ 255) : ((b : Int)).tmod 2 = ((b % 2 : Nat) : Int) ∧ ((b : Int)).tdiv 2 = ((b / 2 : Nat) : Int) ∧ (((b / 2 : Nat) : Int)).tmod 8 = ((b / 2 % 8 : Nat) : Int) := by
  refine ⟨?_, ?_, ?_⟩
  · rw [Int.tmod_eq_emod_of_nonneg (by omega)]; omega
  · rw [Int.tdiv_eq_ediv_of_nonneg (by omega)]; omega
  · rw [Int.tmod_eq_emod_of_nonneg (by omega)]; omega
theorem new_two {w w' : World} {A G : Obj} (h : Below ((w.alloc A).alloc G).heap.size ((w.alloc A).alloc G) w') : Below w.heap.size w w' ∧ w'.heap[w.heap.size]? = some A ∧ w'.heap[w.heap.size + 1]? = some G := by
  have b1 : Below (w.alloc A).heap.size (w.alloc A) ((w.alloc A).alloc G) := (Below.refl _ _).alloc (Nat.le_refl _) _
  have b0 : Below w.heap.size w (w.alloc A) := (Below.refl _ _).alloc (Nat.le_refl _) _
  have s1 : (w.alloc A).heap.size = w.heap.size + 1 := by simp
  refine ⟨(b0.trans (b1.mono (by omega))).trans (h.mono (by simp; omega)), ?_, ?_⟩
  · rw [h.block _ (by simp; omega), b1.block _ (by omega)]
    exact World.alloc_heap_new w A
  · rw [h.block _ (by simp)]
    have := World.alloc_heap_new (w.alloc A) G
    rwa [s1] at this
theorem cmd_bound {t : St} (h : t.Ok) {c : Cmd} (hc : t.cmd = some c) : ∀ x ∈ c.nums, 1 ≤ x ∧ x ≤ t.last := fun x hx => by
  obtain ⟨_, f, l, hsel, _, hnums⟩ := cmd_some h.a.head hc
  rw [hnums] at hx
  obtain ⟨r, hr, rfl⟩ := List.mem_map.1 hx
  exact h.a.rs.num r (mem_readyR (hsel.mem r hr).1).1
/-- One more request on the left, read or write. -/
theorem ask_g {w0 w : World} {m wa wb : Nat} {a b : St} {na nb : Nat} (h : G2 w0 m w wa wb a b na nb) (hg : ErrVar w0) (hk : a.Ok) (hs : a.Small) (hh : a.held < 40) (wt : Bool) (page v : Int) (hp : 0 ≤ page ∧ page < 16) (hl : a.last = na) (hv : 0 ≤ v ∧ v ≤ 255) :
    Calls Tryz.prog 14 #[ptr wa, .bool wt, .int .i64 page, .int .u8 v] w fun y w' => y = .returned (.bool true) ∧ ∃ dd, BOk dd ∧ G2 w0 w'.heap.size w' wa wb (a.add wt page dd) b (na + 1) nb := by
  cases wt with
  | false => exact (askR_g h hg hk hs hh page v hp hl).mono fun y w' ⟨h1, h2, _⟩ => ⟨h1, _, b0_ok, h2⟩
  | true => exact (askW_g h hg hk hs hh page v hp hl hv).mono fun y w' ⟨h1, h2, _⟩ => ⟨h1, _, askD_ok hv na, h2⟩
set_option maxRecDepth 100000 in
set_option maxHeartbeats 4000000 in
theorem given_true (d : Int) (s : ByteArray) (k : Int) (w : World) (hg : ErrVar w) (h1 : -9223372036854775808 ≤ d ∧ d ≤ 9223372036854775807) (hsz : s.size ≤ maxLen) (hk : -9223372036854775808 ≤ k ∧ k ≤ 9223372036854775807) :
    Calls Tryz.prog 5 #[.int .i64 d, .string s, .int .i64 k] w fun x w' => x = .returned (.bool true) ∧ Below w.heap.size w w' := by
  have hp := pickI_lt d (n := 4) (by omega)
  obtain ⟨D, hD⟩ : ∃ D, (1 + pickI d 4).toNat = D := ⟨_, rfl⟩
  have hD4 : 1 ≤ D ∧ D ≤ 4 := by omega
  have HG := Lib.hid hg
  have HBG := Lib.hid (begun_g d w w (Below.refl _ _) hg h1)
  have HDD := Lib.hid hD
  clear hg hp hD
  go_enter Tryz.func5, Tryz.ntmps5
  go_upto_if 32 with fail
  go_cut [1] from 30 to 34 (fun s1 wx => ∃ u : ByteArray, s1 = .string u ∧ u.size ≤ 40 ∧ wx = w)
  case first =>
    by_cases hbig : (s.size : Int) > 40
    · have z1 : (0 : Int) ≤ 40 := by omega
      have z2 : (40 : Int) ≤ (s.size : Int) := by omega
      go_wp2_with fail
      go_meet
      case rel => exact ⟨_, rfl, by simp; omega, rfl⟩
    · go_wp2_with fail
      go_meet
      case rel => exact ⟨s, rfl, by omega, rfl⟩
  case rest =>
    obtain ⟨u, rfl, hu, rfl⟩ := hcut
    obtain ⟨w, rfl⟩ : ∃ z, z = wc := ⟨_, rfl⟩
    clear hsz
    by_cases hue : u.toList.isEmpty = true
    · go_wp2_with fail
      go_ret
      exact ⟨rfl, Below.refl _ _⟩
    have hN0 : 0 < u.size := by
      rcases Nat.eq_zero_or_pos u.size with h | h
      · exact absurd (by rw [show u = ⟨#[]⟩ from ByteArray.ext (Array.eq_empty_of_size_eq_zero h)]; unfold ByteArray.toList ByteArray.toList.loop; rfl) hue
      · exact h
    obtain ⟨N, hN⟩ : ∃ N, u.size = N := ⟨_, rfl⟩
    have hue2 : u.toList.isEmpty = false := by simpa using hue
    clear hue
    have hpk := pickI_lt k (n := (N : Int)) (by omega)
    obtain ⟨K, hK⟩ : ∃ K : Nat, pickI k (N : Int) = (K : Int) := ⟨(pickI k N).toNat, by omega⟩
    rw [hK] at hpk
    have hKN : K < N := by omega
    have HP := Lib.hid fun W => pick_any k (N : Int) W hk (by omega)
    have HK := Lib.hid hK
    clear hpk hK hk
    go_wp2_with fail
    refine HBG.out.mono ?_
    rintro y w1 ⟨wa, rfl, hB2⟩
    have HB2 := Lib.hid hB2
    clear hB2
    go_wp2_with fail
    refine (HB2.out w1 (Below.refl _ _)).mono ?_
    rintro y w2 ⟨wb, rfl, hG⟩
    rw [HDD.out] at hG
    have HG2 := Lib.hid hG
    clear hG
    go_wp2_with fail
    refine (HP.out w2).mono ?_
    rintro y w3 ⟨rfl, rfl⟩
    rw [HK.out]
    have HGG := HG2
    clear HG2 HB2
    go_wp2_with fail
    go_loopg [8, 12] N (fun kk ok i wx => ∃ (j nb : Nat) (a b : St), kk = N - j ∧ j ≤ N ∧ ok = .bool true ∧ i = .int .i64 j ∧ Hid (Asks K j a b) ∧ Hid (nb = if j ≤ K then j else j - 1) ∧ Hid (G2 w wx.heap.size wx wa wb a b j nb))
    case atStart => exact ⟨0, 0, _, _, by simp, by omega, rfl, rfl, Lib.hid (asks_new hD4), Lib.hid (by simp), HGG.out⟩
    case round =>
      obtain ⟨j, nb, a, b, rfl, hj, rfl, rfl, hAs, hnb, hGj⟩ := hrel
      have hwag : Hid (wa < wr.heap.size ∧ wb < wr.heap.size) := by
        obtain ⟨_, c1, c2, _⟩ := (hGj.out.symm).cell HG.out
        obtain ⟨_, c3, c4, _⟩ := (hGj.out).cell HG.out
        exact Lib.hid ⟨c4, c2⟩
      by_cases hlt : j < N
      · have hltI : (j : Int) < (N : Int) := by omega
        have hj0 : (0 : Int) ≤ (j : Int) := by omega
        obtain ⟨v, hv⟩ : ∃ v : UInt8, u[j] = v := ⟨_, rfl⟩
        have hvn := v.toNat_lt
        obtain ⟨bn, hbn⟩ : ∃ bn, v.toNat = bn := ⟨_, rfl⟩
        rw [hbn] at hvn
        obtain ⟨p1, p2, p3⟩ := byte_parts bn (by omega)
        obtain ⟨wbit, hwbit⟩ : ∃ wbit, bn % 2 = wbit := ⟨_, rfl⟩
        obtain ⟨hf, hhf⟩ : ∃ hf, bn / 2 = hf := ⟨_, rfl⟩
        obtain ⟨pg, hpg⟩ : ∃ pg, hf % 8 = pg := ⟨_, rfl⟩
        rw [hwbit] at p1
        rw [hhf] at p2 p3
        rw [hpg] at p3
        have hwb2 : wbit = 0 ∨ wbit = 1 := by omega
        have hw1 : IntKind.u8.wrap (wbit : Int) = (wbit : Int) := by rw [IntKind.wrap_u8]; omega
        have hw2 : IntKind.u8.wrap (hf : Int) = (hf : Int) := by rw [IntKind.wrap_u8]; omega
        have hw3 : IntKind.i64.wrap (hf : Int) = (hf : Int) := by rw [IntKind.wrap_i64]; omega
        have hw4 : IntKind.i64.wrap (pg : Int) = (pg : Int) := by rw [IntKind.wrap_i64]; omega
        have hpgI : (0 : Int) ≤ (pg : Int) ∧ (pg : Int) < 16 := by omega
        have hvI : (0 : Int) ≤ (bn : Int) ∧ (bn : Int) ≤ 255 := by omega
        have hal := hAs.out.al
        have hah := hAs.out.ah
        have hbl := hAs.out.bl
        have hbh := hAs.out.bh
        have hnow := hAs.out.now
        have hsa : a.Small := ⟨by omega, by rw [hnow.1]; decide⟩
        have hsb : b.Small := ⟨by split at hbl <;> omega, by rw [hnow.2]; decide⟩
        have hha : a.held < 40 := by omega
        have hhb : b.held < 40 := by split at hbl <;> omega
        have HSM := Lib.hid (And.intro hsa (And.intro hsb (And.intro hha (And.intro hhb (And.intro hal hbl)))))
        clear hal hah hbl hbh hnow hsa hsb hha hhb hwbit hhf hpg
        rcases hwb2 with rfl | rfl
        all_goals
          go_wp2_with fail
          refine (ask_g hGj.out HG.out hAs.out.aok HSM.out.1 HSM.out.2.2.1 _ (pg : Int) (bn : Int) hpgI HSM.out.2.2.2.2.1 hvI).mono ?_
          rintro y w4 ⟨rfl, dd, hdd, hG4⟩
          have HG4 := Lib.hid hG4
          have HDA := Lib.hid hdd
          clear hG4 hdd
          by_cases hjK : j = K
          · subst hjK
            go_wp2_with fail
            go_roundg (N - (j + 1))
            case measure => omega
            case rel => exact ⟨j + 1, nb, _, b, rfl, by omega, rfl, by go_num, Lib.hid (asks_one hAs.out (by omega) _ _ hpgI dd HDA.out), Lib.hid (by rw [hnb.out, if_pos (Nat.le_refl _), if_neg (by omega)]; omega), HG4⟩
          · have hjKI : ¬ (j : Int) = (K : Int) := by omega
            go_wp2_with fail
            refine (ask_g HG4.out.symm HG.out hAs.out.bok HSM.out.2.1 HSM.out.2.2.2.1 _ (pg : Int) (bn : Int) hpgI (by rw [HSM.out.2.2.2.2.2, hnb.out]; split <;> omega) hvI).mono ?_
            rintro y w5 ⟨rfl, dd2, hdd2, hG5⟩
            have HDB := Lib.hid hdd2
            obtain ⟨n1, hn1⟩ : ∃ n1, j + 1 = n1 := ⟨_, rfl⟩
            obtain ⟨m1, hm1⟩ : ∃ m1, nb + 1 = m1 := ⟨_, rfl⟩
            have hG6 := hG5.symm
            rw [hn1, hm1] at hG6
            obtain ⟨ga, gb, ca, cb, sd, c1, c2, c3, ⟨ud, c4⟩, c5, c6, c7, c8, c9, hst⟩ := hG6.data j (by omega) nb (by omega)
            have c50 := c5 (nb * 6 + 3)
            have HST := Lib.hid hst
            have hnbj : nb ≤ j := by rw [hnb.out]; split <;> omega
            have hjn : (j : Int) < (n1 : Int) := by omega
            have hbm : (nb : Int) < (m1 : Int) := by omega
            have hnb0 : (0 : Int) ≤ (nb : Int) := by omega
            have hwm1 : IntKind.i64.wrap ((m1 : Int) - 1) = (nb : Int) := by rw [IntKind.wrap_i64]; omega
            have hgab : gb < w5.heap.size := c9
            have HN1 := Lib.hid hn1
            have HM1 := Lib.hid hm1
            clear hG5 hG6 hst c5 hdd2 hn1 hm1
            clear hnbj
            go_wp2_with fail
            go_still_tail 20, (by kernel_rfl)
            change wpList _ _ _ _ _ w5.drew
            obtain ⟨w6, hw6⟩ : ∃ w6, w5.drew = w6 := ⟨_, rfl⟩
            have hB6 : Below w5.heap.size w5 w6 := by rw [← hw6]; exact ⟨rfl, rfl, rfl, Nat.le_refl _, fun _ _ => rfl⟩
            rw [hw6]
            have c41 := (hB6.cell (p := ⟨gb, nb * 6 + 3, none⟩) hgab).trans c4
            have c51 := (hB6.frozen (p := ⟨gb, nb * 6 + 3, none⟩) hgab).trans c50
            have hG7 := (HST.out w6 hB6).grow (m' := (w6.setCell ⟨gb, nb * 6 + 3, none⟩ (.string sd)).heap.size) (by have := hB6.size; simpa using this) (Nat.le_refl _)
            rw [← HN1.out, ← HM1.out] at hG7
            have HG7 := Lib.hid hG7
            clear hw6 hG7 hB6 c1 c2 c3 c4 c50
            go_wp2_with fail
            go_roundg (N - (j + 1))
            case measure => omega
            case rel =>
              exact ⟨j + 1, nb + 1, _, _, rfl, by omega, rfl, by go_num, Lib.hid (asks_both hAs.out (by omega) hjK _ _ hpgI dd dd2 HDA.out HDB.out), Lib.hid (by rw [hnb.out]; split <;> split <;> omega), HG7⟩
      · obtain rfl : j = N := by omega
        obtain ⟨r, hf, h0, _, r', hf', h4, htr, hnone, hok1, hok2, htw, hrdy, hnw⟩ := asks_give hAs.out hKN (by omega)
        have hal := hAs.out.al
        have hnow := hAs.out.now
        have hsa : a.Small := ⟨by omega, by rw [hnow.1]; decide⟩
        have hsa1 : (a.give ((K : Int) + 1)).Small := ⟨hsa.last, hsa.now⟩
        have hbl := hAs.out.bl
        have hsb : b.Small := ⟨by split at hbl <;> omega, by rw [hnow.2]; decide⟩
        have HSB := Lib.hid hsb
        obtain ⟨W1, rfl⟩ : ∃ z, z = wr := ⟨_, rfl⟩
        obtain ⟨qa, c0, hwl, hC1⟩ := cancel_g hGj.out HG.out hAs.out.aok hsa ((K : Int) + 1) r hf (by omega)
        have hwK : IntKind.i64.wrap ((K : Int) + 1) = (K : Int) + 1 := by rw [IntKind.wrap_i64]; omega
        have HC1 := Lib.hid (hC1 W1 (Below.refl _ _))
        have HGV := Lib.hid (And.intro htw (And.intro hrdy (And.intro hnw (And.intro hok2 (And.intro hAs.out.bok hAs.out.ac)))))
        have HR := Lib.hid (And.intro hf' (And.intro h4 hnone))
        have HOK1 := Lib.hid (And.intro hok1 hsa1)
        clear hC1 htw hrdy hnw hok1 hok2 hf hf' h4 hnone h0 hal hnow hsa hsa1 htr hbl hsb
        go_wp2_with fail
        refine HC1.out.mono ?_
        rintro y W2 ⟨rfl, hG2, hch2⟩
        obtain ⟨W3, hW3⟩ : ∃ W3, W2.alloc (.cells #[.int .i64 0, .int .i64 (-1), .int .i64 0, .bool true] 39) = W3 := ⟨_, rfl⟩
        have hB3 : Below W2.heap.size W2 W3 := by rw [← hW3]; exact (Below.refl _ _).alloc (Nat.le_refl _) _
        have hE3 : W3.heap[W2.heap.size]? = some (.cells #[.int .i64 0, .int .i64 (-1), .int .i64 0, .bool true] 39 (0, 0)) := by rw [← hW3]; exact World.alloc_heap_new _ _
        have hG3 := hG2.later (hB3.mono hG2.le)
        obtain ⟨q, e2, _, _⟩ := hG2.cell HG.out
        have hwl2 := lt_of_cell e2
        obtain ⟨q2, c2, _, hC2⟩ := again_g hG3 HG.out ((K : Int) + 1) r' HR.out.1 (by have := HR.out.2.1; omega)
        have e3 := (hB3.cell (p := ⟨wa, 0, none⟩) hwl2).trans e2
        obtain rfl : q2 = q := by have := c2.symm.trans e3; simpa [ptr] using this
        have HC2 := Lib.hid (hC2 W3 (Below.refl _ _))
        have HG3 := Lib.hid hG3
        have HE3 := Lib.hid hE3
        have HW3 := Lib.hid hW3
        have hm2 : W1.heap.size ≤ W2.heap.size := hch2.size
        clear hC2 hG2 hG3 hE3 hW3 hB3 c0 hch2 e3
        go_wp2_with fail
        rw [HW3.out]
        go_wp2_with fail
        refine HC2.out.mono ?_
        rintro y W4 ⟨rfl, hB4⟩
        obtain ⟨W5, hW5⟩ : ∃ W5, W4.alloc (.cells #[.int .i64 9, .int .i64 ((K : Int) + 1), .int .i64 r'.tries, .bool true] 39) = W5 := ⟨_, rfl⟩
        have hB5 : Below W4.heap.size W4 W5 := by rw [← hW5]; exact (Below.refl _ _).alloc (Nat.le_refl _) _
        have hF5 : W5.heap[W4.heap.size]? = some (.cells #[.int .i64 9, .int .i64 ((K : Int) + 1), .int .i64 r'.tries, .bool true] 39 (0, 0)) := by rw [← hW5]; exact World.alloc_heap_new _ _
        have hE5 := (hB5.block _ (Nat.lt_of_lt_of_le (lt_of_heap HE3.out) hB4.size)).trans ((hB4.block _ (lt_of_heap HE3.out)).trans HE3.out)
        have hG4 := HG3.out.later (hB4.mono HG3.out.le)
        have hG5 := hG4.later (hB5.mono hG4.le)
        have e4 := (hB4.cell (p := ⟨wa, 0, none⟩) (lt_of_cell c2)).trans c2
        have e5 := (hB5.cell (p := ⟨wa, 0, none⟩) (lt_of_cell e4)).trans e4
        have hwl4 := lt_of_cell e4
        obtain ⟨q3, c3, _, hC3⟩ := told_g hG5 HG.out HOK1.out.1 HOK1.out.2 ((K : Int) + 1) r' HR.out.1 HR.out.2.1
        obtain rfl : q3 = q2 := by have := c3.symm.trans e5; simpa [ptr] using this
        have HC3 := Lib.hid (hC3 W5 (Below.refl _ _))
        have HE5 := Lib.hid hE5
        have HF5 := Lib.hid hF5
        have HW5 := Lib.hid hW5
        have hm4 : W1.heap.size ≤ W4.heap.size := hG4.le
        clear hC3 hG4 hG5 hE5 hF5 hW5 hB5 hB4 c2 e5 e2
        go_wp2_with fail
        rw [HW5.out]
        go_wp2_with fail
        refine HC3.out.mono ?_
        rintro y W6 ⟨rfl, hG6, hch6⟩
        have hE6 := (hch6.block _ (lt_of_heap HE5.out) (by omega)).trans HE5.out
        have hF6 := (hch6.block _ (lt_of_heap HF5.out) (by omega)).trans HF5.out
        obtain ⟨q6, e6, _, _⟩ := hG6.cell HG.out
        have hwl6 := lt_of_cell e6
        obtain ⟨W7, hW7⟩ : ∃ W7, (W6.alloc (.cells #[.slice none 0 0, .int .i64 0] 43)).alloc (.cells #[.int .i64 8, .int .i64 ((K : Int) + 1), .int .i64 r'.tries, .bool true] 39) = W7 := ⟨_, rfl⟩
        obtain ⟨hB7, hA7, hP7⟩ := new_two (Below.refl ((W6.alloc (.cells #[.slice none 0 0, .int .i64 0] 43)).alloc (.cells #[.int .i64 8, .int .i64 ((K : Int) + 1), .int .i64 r'.tries, .bool true] 39)).heap.size _)
        rw [hW7] at hB7 hA7 hP7
        have hG7 := hG6.later (hB7.mono hG6.le)
        have e7 := (hB7.cell (p := ⟨wa, 0, none⟩) hwl6).trans e6
        obtain ⟨q7, c7, _, hC4⟩ := gone_g hG7 HG.out ((K : Int) + 1) HR.out.2.2
        obtain rfl : q7 = q6 := by have := c7.symm.trans e7; simpa [ptr] using this
        have HC4 := Lib.hid (hC4 W7 (Below.refl _ _))
        have hE7 := (hB7.block _ (lt_of_heap hE6)).trans hE6
        have hF7 := (hB7.block _ (lt_of_heap hF6)).trans hF6
        have HE7 := Lib.hid hE7
        have HF7 := Lib.hid hF7
        have HP7 := Lib.hid hP7
        have HG7 := Lib.hid hG7
        have HW7 := Lib.hid hW7
        clear hC4 hG6 hG7 hE6 hF6 hE7 hF7 hA7 hP7 hW7 hB7 hch6 c3 e4 e7
        go_wp2_with fail
        rw [HW7.out]
        go_wp2_with fail
        refine HC4.out.mono ?_
        rintro y W8 ⟨rfl, hB8⟩
        have hE8 := (hB8.block _ (lt_of_heap HE7.out)).trans HE7.out
        have hF8 := (hB8.block _ (lt_of_heap HF7.out)).trans HF7.out
        have hP8 := (hB8.block _ (lt_of_heap HP7.out)).trans HP7.out
        have hG8 := HG7.out.later (hB8.mono HG7.out.le)
        obtain ⟨W9, hW9⟩ : ∃ W9, (W8.alloc (.cells #[.slice none 0 0, .int .i64 0] 43)).alloc (.cells #[.int .i64 5, .int .i64 (-1), .int .i64 0, .bool true] 39) = W9 := ⟨_, rfl⟩
        obtain ⟨hB9, _, hH9⟩ := new_two (Below.refl ((W8.alloc (.cells #[.slice none 0 0, .int .i64 0] 43)).alloc (.cells #[.int .i64 5, .int .i64 (-1), .int .i64 0, .bool true] 39)).heap.size _)
        rw [hW9] at hB9 hH9
        have hG9 := hG8.later (hB9.mono hG8.le)
        have hE9 := (hB9.block _ (lt_of_heap hE8)).trans hE8
        have hF9 := (hB9.block _ (lt_of_heap hF8)).trans hF8
        have hP9 := (hB9.block _ (lt_of_heap hP8)).trans hP8
        have y0 : W8.cell? ⟨W2.heap.size, 0, none⟩ = some (.int .i64 0) := cell_of hE8 rfl
        have y1 : W8.cell? ⟨W2.heap.size, 1, none⟩ = some (.int .i64 (-1)) := cell_of hE8 rfl
        have y2 : W8.cell? ⟨W2.heap.size, 2, none⟩ = some (.int .i64 0) := cell_of hE8 rfl
        have y3 : W8.cell? ⟨W2.heap.size, 3, none⟩ = some (.bool true) := cell_of hE8 rfl
        have hel := lt_of_heap hE8
        have hx1 : W2.heap.size ≠ W8.heap.size := by omega
        have hx2 : W2.heap.size ≠ W8.heap.size + 1 := by omega
        have hx3 := hx1.symm
        have hx4 := hx2.symm
        have HF9 := Lib.hid hF9
        have HP9 := Lib.hid hP9
        have HH9 := Lib.hid hH9
        have HG9 := Lib.hid hG9
        have HW9 := Lib.hid hW9
        clear hE8 hF8 hP8 hG8 hB9 hH9 hG9 hE9 hF9 hP9 hW9 c7 e6 hB8
        go_wp2_with fail
        rw [HW9.out]
        refine (fine_yes W9).mono ?_
        rintro y W10 ⟨rfl, hB10⟩
        have hF10 := (hB10.block _ (lt_of_heap HF9.out)).trans HF9.out
        have hP10 := (hB10.block _ (lt_of_heap HP9.out)).trans HP9.out
        have hH10 := (hB10.block _ (lt_of_heap HH9.out)).trans HH9.out
        have f0 : W10.cell? ⟨W4.heap.size, 0, none⟩ = some (.int .i64 9) := cell_of hF10 rfl
        have f1 : W10.cell? ⟨W4.heap.size, 1, none⟩ = some (.int .i64 ((K : Int) + 1)) := cell_of hF10 rfl
        have g0 : W10.cell? ⟨W6.heap.size + 1, 0, none⟩ = some (.int .i64 8) := cell_of hP10 rfl
        have g1 : W10.cell? ⟨W6.heap.size + 1, 1, none⟩ = some (.int .i64 ((K : Int) + 1)) := cell_of hP10 rfl
        have g2 : W10.cell? ⟨W8.heap.size + 1, 0, none⟩ = some (.int .i64 5) := cell_of hH10 rfl
        have hG10 := (HG9.out.later (hB10.mono HG9.out.le)).grow (m' := W10.heap.size) (Nat.le_trans HG9.out.le hB10.size) (Nat.le_refl _)
        have HG10 := Lib.hid hG10
        clear hG10 hB10 hF10 hP10 hH10 y0 y1 y2 y3
        go_wp2_with fail
        clear f0 f1 g0 g1 g2
        obtain ⟨V, rfl⟩ : ∃ z, z = W10 := ⟨_, rfl⟩
        go_loopg [8, 20] 200 (fun kk ok iv wx => ∃ (i : Nat) (a b : St), kk = 200 - i ∧ i ≤ 200 ∧ ok = .bool true ∧ iv = .int .i64 i ∧ Hid (G2 w wx.heap.size wx wa wb a b j nb) ∧ Hid (Twin K a b ∧ Rdy a ∧ 2 * nwait a + a.cs.length + i ≤ 80 ∧ a.Ok ∧ b.Ok ∧ a.Small ∧ b.Small))
        case atStart =>
          refine ⟨0, _, b, by simp, by omega, rfl, rfl, HG10, Lib.hid ⟨HGV.out.1, HGV.out.2.1, ?_, HGV.out.2.2.2.1, HGV.out.2.2.2.2.1, ⟨HOK1.out.2.last, HOK1.out.2.now⟩, HSB.out⟩⟩
          have z1 := HGV.out.2.2.1
          have z2 : ((a.give ((K : Int) + 1)).tell ((K : Int) + 1)).cs = [] := HGV.out.2.2.2.2.2.1
          rw [z2]
          simp
          omega
        case round =>
          obtain ⟨i, a2, b2, rfl, hi, rfl, rfl, hG0, hT⟩ := hrel
          have hi80 := hT.out.2.2.1
          have hiI : (i : Int) < 200 := by omega
          have hi0 : (0 : Int) ≤ (i : Int) := by omega
          obtain ⟨V0, rfl⟩ : ∃ z, z = wr := ⟨_, rfl⟩
          cases hca : a2.cmd with
          | none =>
            have hcb : b2.cmd = none := by
              have := hT.out.1.cmd
              rw [hca] at this
              simpa using this.symm
            obtain ⟨qa, ca, hwla, hNa⟩ := stepN_g hG0.out HG.out hT.out.2.2.2.1 hca
            obtain ⟨qb, cb, hwlb, hNb⟩ := stepN_g hG0.out.symm HG.out hT.out.2.2.2.2.1 hcb
            have HNA := Lib.hid (hNa V0 (Below.refl _ _))
            have HNB := Lib.hid hNb
            clear hNa hNb hi80
            go_wp2_with fail
            refine HNA.out.mono ?_
            rintro y V1 ⟨rfl, hB1⟩
            have cb1 := (hB1.cell (p := ⟨wb, 0, none⟩) (lt_of_cell cb)).trans cb
            have ca1 := (hB1.cell (p := ⟨wa, 0, none⟩) (lt_of_cell ca)).trans ca
            have hwb1 := lt_of_cell cb1
            obtain ⟨V2, hV2⟩ : ∃ V2, V1.alloc (.cells #[.bool false, .int .i64 0, .int .i64 0, .slice none 0 0] 48) = V2 := ⟨_, rfl⟩
            have hB2 : Below V1.heap.size V1 V2 := by rw [← hV2]; exact (Below.refl _ _).alloc (Nat.le_refl _) _
            have hC2 : V2.heap[V1.heap.size]? = some (.cells #[.bool false, .int .i64 0, .int .i64 0, .slice none 0 0] 48 (0, 0)) := by rw [← hV2]; exact World.alloc_heap_new _ _
            have hB02 := hB1.trans (hB2.mono hB1.size)
            have HN2 := Lib.hid (HNB.out V2 hB02)
            have HC2 := Lib.hid hC2
            have HB02 := Lib.hid hB02
            have HV2 := Lib.hid hV2
            have ca2 := (hB2.cell (p := ⟨wa, 0, none⟩) (lt_of_cell ca1)).trans ca1
            have cb2 := (hB2.cell (p := ⟨wb, 0, none⟩) (lt_of_cell cb1)).trans cb1
            clear hB2 hC2 hB02 hV2 hB1 ca
            go_wp2_with fail
            rw [HV2.out]
            go_wp2_with fail
            refine HN2.out.mono ?_
            rintro y V3 ⟨rfl, hB3⟩
            have hC3 := (hB3.block _ (lt_of_heap HC2.out)).trans HC2.out
            have x0 : V3.cell? ⟨V1.heap.size, 0, none⟩ = some (.bool false) := cell_of hC3 rfl
            have x1 : V3.cell? ⟨V1.heap.size, 1, none⟩ = some (.int .i64 0) := cell_of hC3 rfl
            have x2 : V3.cell? ⟨V1.heap.size, 2, none⟩ = some (.int .i64 0) := cell_of hC3 rfl
            have x3 : V3.cell? ⟨V1.heap.size, 3, none⟩ = some (.slice none 0 0) := cell_of hC3 rfl
            have hl1 := lt_of_heap hC3
            have hx1 : V1.heap.size ≠ V3.heap.size := by omega
            have hx2 := hx1.symm
            have ca3 := (hB3.cell (p := ⟨wa, 0, none⟩) (lt_of_cell ca2)).trans ca2
            have cb3 := (hB3.cell (p := ⟨wb, 0, none⟩) (lt_of_cell cb2)).trans cb2
            obtain ⟨V4, hV4⟩ : ∃ V4, V3.alloc (.cells #[.bool false, .int .i64 0, .int .i64 0, .slice none 0 0] 48) = V4 := ⟨_, rfl⟩
            have hB4 : Below V3.heap.size V3 V4 := by rw [← hV4]; exact (Below.refl _ _).alloc (Nat.le_refl _) _
            have hB04 := (HB02.out.trans (hB3.mono HB02.out.size)).trans (hB4.mono (HB02.out.trans (hB3.mono HB02.out.size)).size)
            have y3 : V4.cell? ⟨V1.heap.size, 3, none⟩ = some (.slice none 0 0) := cell_of ((hB4.block _ hl1).trans hC3) rfl
            have ca4 := (hB4.cell (p := ⟨wa, 0, none⟩) (lt_of_cell ca3)).trans ca3
            have cb4 := (hB4.cell (p := ⟨wb, 0, none⟩) (lt_of_cell cb3)).trans cb3
            have HB04 := Lib.hid hB04
            have HV4 := Lib.hid hV4
            clear hB4 hV4 hB04 hC3 hB3 ca2 cb2 ca1 cb1 cb hwb1
            go_wp2_with fail
            rw [HV4.out]
            clear x0 x1 x2 x3 hx1 hx2 ca3 cb3 hl1
            go_loopg [25] 0 (fun kk jv wx => jv = .int .i64 0 ∧ wx = V4)
            case atStart => exact ⟨rfl, rfl⟩
            case round =>
              obtain ⟨rfl, rfl⟩ := hrel
              have hG4 := hG0.out.later HB04.out
              obtain ⟨q5, c5, hwl5, hcs, hcn⟩ := comp_g hG4 HG.out hT.out.2.2.2.1 hT.out.2.2.2.2.2.1
              obtain rfl : q5 = qa := by have := c5.symm.trans ca4; simpa [ptr] using this
              have hwlb4 := lt_of_cell cb4
              rcases hT.out.1.complete 0 false with ⟨hna, hnb'⟩ | ⟨a3, b3, hsa, hsb, htw3⟩
              · have HCN := Lib.hid (hcn 0 false hna wr (Below.refl _ _))
                have HG4 := Lib.hid hG4
                have HNO := Lib.hid (And.intro hna hnb')
                clear hcs hcn hna hnb' c5 hG4
                go_wp2_with fail
                refine HCN.out.mono ?_
                rintro y V6 ⟨rfl, hB6⟩
                have hG6 := HG4.out.later (hB6.mono HG4.out.le)
                have cb6 := (hB6.cell (p := ⟨wb, 0, none⟩) hwlb4).trans cb4
                have ca6 := (hB6.cell (p := ⟨wa, 0, none⟩) (lt_of_cell ca4)).trans ca4
                obtain ⟨V7, hV7⟩ : ∃ V7, V6.alloc (.cells #[.int .i64 10, .int .i64 (-1), .int .i64 0, .bool true] 39) = V7 := ⟨_, rfl⟩
                have hB7 : Below V6.heap.size V6 V7 := by rw [← hV7]; exact (Below.refl _ _).alloc (Nat.le_refl _) _
                have hX7 : V7.heap[V6.heap.size]? = some (.cells #[.int .i64 10, .int .i64 (-1), .int .i64 0, .bool true] 39 (0, 0)) := by rw [← hV7]; exact World.alloc_heap_new _ _
                have hG7 := hG6.later (hB7.mono hG6.le)
                have cb7 := (hB7.cell (p := ⟨wb, 0, none⟩) (lt_of_cell cb6)).trans cb6
                have ca7 := (hB7.cell (p := ⟨wa, 0, none⟩) (lt_of_cell ca6)).trans ca6
                have hwl6 := lt_of_cell cb6
                obtain ⟨q8, c8, _, _, hcn8⟩ := comp_g hG7.symm HG.out hT.out.2.2.2.2.1 hT.out.2.2.2.2.2.2
                obtain rfl : q8 = qb := by have := c8.symm.trans cb7; simpa [ptr] using this
                have HCN8 := Lib.hid (hcn8 0 false HNO.out.2 V7 (Below.refl _ _))
                have HG7 := Lib.hid hG7
                have HX7 := Lib.hid hX7
                have HV7 := Lib.hid hV7
                clear hcn8 hG6 hG7 hX7 hV7 hB7 hB6 c8 cb4 ca4 ca6
                go_wp2_with fail
                rw [HV7.out]
                go_wp2_with fail
                refine HCN8.out.mono ?_
                rintro y V8 ⟨rfl, hB8⟩
                have hX8 := (hB8.block _ (lt_of_heap HX7.out)).trans HX7.out
                have z0 : V8.cell? ⟨V6.heap.size, 0, none⟩ = some (.int .i64 10) := cell_of hX8 rfl
                have z1 : V8.cell? ⟨V6.heap.size, 1, none⟩ = some (.int .i64 (-1)) := cell_of hX8 rfl
                have z2 : V8.cell? ⟨V6.heap.size, 2, none⟩ = some (.int .i64 0) := cell_of hX8 rfl
                have z3 : V8.cell? ⟨V6.heap.size, 3, none⟩ = some (.bool true) := cell_of hX8 rfl
                have hlx := lt_of_heap hX8
                have hx1 : V6.heap.size ≠ V8.heap.size := by omega
                have hx2 := hx1.symm
                have hG8 := HG7.out.later (hB8.mono HG7.out.le)
                have ca8 := (hB8.cell (p := ⟨wa, 0, none⟩) (lt_of_cell ca7)).trans ca7
                obtain ⟨V9, hV9⟩ : ∃ V9, V8.alloc (.cells #[.int .i64 10, .int .i64 (-1), .int .i64 0, .bool true] 39) = V9 := ⟨_, rfl⟩
                have hB9 : Below V8.heap.size V8 V9 := by rw [← hV9]; exact (Below.refl _ _).alloc (Nat.le_refl _) _
                have hG9 := hG8.later (hB9.mono hG8.le)
                have ca9 := (hB9.cell (p := ⟨wa, 0, none⟩) (lt_of_cell ca8)).trans ca8
                have HG9 := Lib.hid hG9
                have HV9 := Lib.hid hV9
                clear hG8 hG9 hV9 hB9 hB8 hX8 cb6 cb7 ca7 ca8
                go_wp2_with fail
                rw [HV9.out]
                refine (fine_no 10 (-1) 0 (by omega) V9).mono ?_
                rintro y V10 ⟨rfl, hB10⟩
                have hG10 := HG9.out.later (hB10.mono HG9.out.le)
                have ca10 := (hB10.cell (p := ⟨wa, 0, none⟩) (lt_of_cell ca9)).trans ca9
                obtain ⟨q11, c11, _, hWt⟩ := waits_g hG10 HG.out hT.out.2.2.2.1 hT.out.2.2.2.2.2.1
                obtain rfl : q11 = q5 := by have := c11.symm.trans ca10; simpa [ptr] using this
                have HWT := Lib.hid (hWt V10 (Below.refl _ _))
                have HG10 := Lib.hid hG10
                have hw0 : a2.waiting.length = 0 := by
                  have hcs0 : a2.cs = [] := by
                    have z := HNO.out.1
                    unfold St.complete at z
                    cases hcc : a2.cs with
                    | nil => rfl
                    | cons c l => rw [hcc] at z; simp at z
                  have z := idle hT.out.2.2.2.1 hT.out.2.1 hcs0 hca
                  unfold nwait at z
                  unfold St.waiting
                  rw [List.length_map]
                  exact z
                have HW0 := Lib.hid hw0
                clear hWt hG10 hB10 ca9 c11 z0 z1 z2 z3 hx1 hx2 hlx hw0
                go_wp2_with fail
                refine HWT.out.mono ?_
                rintro y V11 ⟨v11, rfl, hrow, hB11⟩
                rw [HW0.out] at hrow
                obtain ⟨va11, vc11, rfl⟩ := own_slice hrow
                have hfin := (HG10.out.later (hB11.mono HG10.out.le)).below
                clear hrow hB11
                go_wp2_with fail
                go_ret
                exact ⟨rfl, hfin⟩
              · have HCS := Lib.hid (hcs 0 false a3 hsa wr (Below.refl _ _))
                have HCW := Lib.hid (complete_wait hsa)
                have HOK3 := Lib.hid (And.intro (ok_complete hT.out.2.2.2.1 hsa) (And.intro (ok_complete hT.out.2.2.2.2.1 hsb) (And.intro (complete_same hsa) (complete_same hsb))))
                have HTW := Lib.hid htw3
                have HSB3 := Lib.hid hsb
                clear hcs hcn hsa hsb c5 hG4 htw3
                go_wp2_with fail
                refine HCS.out.mono ?_
                rintro y V6 ⟨rfl, hG6, _⟩
                obtain ⟨q6, cb6, _, _⟩ := hG6.symm.cell HG.out
                obtain ⟨V7, hV7⟩ : ∃ V7, V6.alloc (.cells #[.int .i64 0, .int .i64 (-1), .int .i64 0, .bool true] 39) = V7 := ⟨_, rfl⟩
                have hB7 : Below V6.heap.size V6 V7 := by rw [← hV7]; exact (Below.refl _ _).alloc (Nat.le_refl _) _
                have hX7 : V7.heap[V6.heap.size]? = some (.cells #[.int .i64 0, .int .i64 (-1), .int .i64 0, .bool true] 39 (0, 0)) := by rw [← hV7]; exact World.alloc_heap_new _ _
                have hG7 := hG6.later (hB7.mono hG6.le)
                have hle6 := hG6.le
                have cb7 := (hB7.cell (p := ⟨wb, 0, none⟩) (lt_of_cell cb6)).trans cb6
                have hwl6 := lt_of_cell cb6
                obtain ⟨q8, c8, _, hcs8, _⟩ := comp_g hG7.symm HG.out hT.out.2.2.2.2.1 hT.out.2.2.2.2.2.2
                obtain rfl : q8 = q6 := by have := c8.symm.trans cb7; simpa [ptr] using this
                have HCS8 := Lib.hid (hcs8 0 false b3 HSB3.out V7 (Below.refl _ _))
                have HX7 := Lib.hid hX7
                have HV7 := Lib.hid hV7
                clear hcs8 hG6 hG7 hX7 hV7 hB7 c8 cb4 ca4
                go_wp2_with fail
                rw [HV7.out]
                go_wp2_with fail
                refine HCS8.out.mono ?_
                rintro y V8 ⟨rfl, hG8, hch8⟩
                have hX8 := (hch8.block _ (lt_of_heap HX7.out) (by omega)).trans HX7.out
                have z0 : V8.cell? ⟨V6.heap.size, 0, none⟩ = some (.int .i64 0) := cell_of hX8 rfl
                have z1 : V8.cell? ⟨V6.heap.size, 1, none⟩ = some (.int .i64 (-1)) := cell_of hX8 rfl
                have z2 : V8.cell? ⟨V6.heap.size, 2, none⟩ = some (.int .i64 0) := cell_of hX8 rfl
                have z3 : V8.cell? ⟨V6.heap.size, 3, none⟩ = some (.bool true) := cell_of hX8 rfl
                have hlx := lt_of_heap hX8
                have hx1 : V6.heap.size ≠ V8.heap.size := by omega
                have hx2 := hx1.symm
                obtain ⟨V9, hV9⟩ : ∃ V9, V8.alloc (.cells #[.int .i64 0, .int .i64 (-1), .int .i64 0, .bool true] 39) = V9 := ⟨_, rfl⟩
                have hB9 : Below V8.heap.size V8 V9 := by rw [← hV9]; exact (Below.refl _ _).alloc (Nat.le_refl _) _
                have hG9 := hG8.symm.later (hB9.mono hG8.le)
                have HG9 := Lib.hid hG9
                have HV9 := Lib.hid hV9
                clear hG8 hG9 hV9 hB9 hX8 cb6 cb7 hch8
                go_wp2_with fail
                rw [HV9.out]
                refine (fine_yes V9).mono ?_
                rintro y V10 ⟨rfl, hB10⟩
                have hG10 := (HG9.out.later (hB10.mono HG9.out.le)).grow (m' := V10.heap.size) (Nat.le_trans HG9.out.le hB10.size) (Nat.le_refl _)
                have HG10 := Lib.hid hG10
                clear hG10 hB10 z0 z1 z2 z3 hx1 hx2 hlx
                go_wp2_with fail
                go_roundg (200 - (i + 1))
                case measure => omega
                case rel =>
                  refine ⟨i + 1, a3, b3, rfl, by omega, rfl, by go_num, HG10, Lib.hid ⟨HTW.out, HCW.out.2.1 hT.out.2.1, ?_, HOK3.out.1, HOK3.out.2.1, ?_, ?_⟩⟩
                  · have u1 := HCW.out.1
                    have u2 := HCW.out.2.2
                    have u3 := hT.out.2.2.1
                    omega
                  · obtain ⟨u1, u2, _⟩ := HOK3.out.2.2.1
                    exact ⟨by rw [u1]; exact hT.out.2.2.2.2.2.1.last, by rw [u2]; exact hT.out.2.2.2.2.2.1.now⟩
                  · obtain ⟨u1, u2, _⟩ := HOK3.out.2.2.2
                    exact ⟨by rw [u1]; exact hT.out.2.2.2.2.2.2.last, by rw [u2]; exact hT.out.2.2.2.2.2.2.now⟩
          | some c =>
            obtain ⟨dc, hcb, hcd⟩ : ∃ dc, b2.cmd = some dc ∧ c = shC (shN K) dc := by
              have := hT.out.1.cmd
              rw [hca] at this
              obtain ⟨dc, e1, e2⟩ := Option.map_eq_some_iff.1 this.symm
              exact ⟨dc, e1, e2.symm⟩
            obtain ⟨qa, qb, ca, cb, hwla, hwlb, hS⟩ := stepS_g hG0.out HG.out hT.out.2.2.2.1 hT.out.2.2.2.2.2.1 hT.out.2.2.2.2.1 hT.out.2.2.2.2.2.2 c dc hca hcb
            obtain ⟨nn, hnn⟩ : ∃ nn, dc.nums.length = nn := ⟨_, rfl⟩
            have e1 : c.write = dc.write := by rw [hcd]; rfl
            have e2 : c.page = dc.page := by rw [hcd]; rfl
            have e3 : c.count = dc.count := by rw [hcd]; rfl
            have e4 : c.nums = dc.nums.map (shN K) := by rw [hcd]; rfl
            have e5 : c.nums.length = nn := by rw [e4, List.length_map, hnn]
            have hbd := cmd_bound hT.out.2.2.2.2.1 hcb
            have hnl : nn ≤ 900000 := by
              have u1 := cmd_len (ok_sent hT.out.2.2.2.2.1 hcb) (c := dc) (by simp [St.sent])
              have u2 : (b2.sent dc).last = b2.last := rfl
              have u3 := hT.out.2.2.2.2.2.2.last
              omega
            have hbl := hT.out.2.2.2.2.2.2.last
            obtain ⟨dw, hdw⟩ : ∃ z, dc.write = z := ⟨_, rfl⟩
            obtain ⟨dp, hdp⟩ : ∃ z, dc.page = z := ⟨_, rfl⟩
            obtain ⟨dn, hdn⟩ : ∃ z, dc.count = z := ⟨_, rfl⟩
            rw [e1, e2, e3, e5, hdw, hdp, hdn, hnn] at hS
            have hw := sent_wait hT.out.2.2.2.1 hca
            have hTs : Twin K (a2.sent c) (b2.sent dc) := by rw [hcd]; exact hT.out.1.sent dc
            have HT2 := Lib.hid (And.intro hTs (And.intro (sent_rdy hT.out.2.1 c) (And.intro hw (And.intro (ok_sent hT.out.2.2.2.1 hca) (ok_sent hT.out.2.2.2.2.1 hcb)))))
            have HS := Lib.hid (hS V0 (Below.refl _ _))
            have HE := Lib.hid (And.intro e4 (And.intro hnn (And.intro hbd hbl)))
            clear hS e1 e2 e3 e4 e5 hnn hbd hbl hw hTs hcd hdw hdp hdn hi80 hca hcb
            go_wp2_with fail
            refine HS.out.mono ?_
            rintro y V1 ⟨va, vc, rfl, cb1, hch1, hrow1, hS2⟩
            obtain ⟨V2, hV2⟩ : ∃ V2, V1.alloc (.cells #[.bool dw, .int .i64 dp, .int .i64 dn, .slice va nn vc] 48) = V2 := ⟨_, rfl⟩
            have hB2 : Below V1.heap.size V1 V2 := by rw [← hV2]; exact (Below.refl _ _).alloc (Nat.le_refl _) _
            have hC2 : V2.heap[V1.heap.size]? = some (.cells #[.bool dw, .int .i64 dp, .int .i64 dn, .slice va nn vc] 48 (0, 0)) := by rw [← hV2]; exact World.alloc_heap_new _ _
            have hsz1 := hch1.size
            have cb2 := (hB2.cell (p := ⟨wb, 0, none⟩) (lt_of_cell cb1)).trans cb1
            have hwb1 := lt_of_cell cb1
            have hrow2 := ownsRow_chg hrow1 (chgB hB2 fun _ => False) fun _ _ z => z
            have HS2 := Lib.hid (hS2 V2 hB2)
            have HC2 := Lib.hid hC2
            have HV2 := Lib.hid hV2
            have HR2 := Lib.hid hrow2
            clear hS2 hB2 hC2 hV2 hrow1 hrow2 hch1 ca cb
            go_wp2_with fail
            rw [HV2.out]
            go_wp2_with fail
            refine HS2.out.mono ?_
            rintro y V3 ⟨vb, vd, rfl, hG3, hch3, hrow3⟩
            have hC3 := (hch3.block _ (lt_of_heap HC2.out) (by omega)).trans HC2.out
            have hrw3 := ownsRow_chg HR2.out hch3 fun z hz hlt => by have := own_ge HR2.out hz; omega
            have x0 : V3.cell? ⟨V1.heap.size, 0, none⟩ = some (.bool dw) := cell_of hC3 rfl
            have x1 : V3.cell? ⟨V1.heap.size, 1, none⟩ = some (.int .i64 dp) := cell_of hC3 rfl
            have x2 : V3.cell? ⟨V1.heap.size, 2, none⟩ = some (.int .i64 dn) := cell_of hC3 rfl
            have x3 : V3.cell? ⟨V1.heap.size, 3, none⟩ = some (.slice va nn vc) := cell_of hC3 rfl
            have hl1 := lt_of_heap hC3
            have hx1 : V1.heap.size ≠ V3.heap.size := by omega
            have hx2 := hx1.symm
            obtain ⟨V4, hV4⟩ : ∃ V4, V3.alloc (.cells #[.bool dw, .int .i64 dp, .int .i64 dn, .slice vb nn vd] 48) = V4 := ⟨_, rfl⟩
            have hB4 : Below V3.heap.size V3 V4 := by rw [← hV4]; exact (Below.refl _ _).alloc (Nat.le_refl _) _
            have hD4 : V4.heap[V3.heap.size]? = some (.cells #[.bool dw, .int .i64 dp, .int .i64 dn, .slice vb nn vd] 48 (0, 0)) := by rw [← hV4]; exact World.alloc_heap_new _ _
            have hC4 := (hB4.block _ hl1).trans hC3
            have y3 : V4.cell? ⟨V1.heap.size, 3, none⟩ = some (.slice va nn vc) := cell_of hC4 rfl
            have z3 : V4.cell? ⟨V3.heap.size, 3, none⟩ = some (.slice vb nn vd) := cell_of hD4 rfl
            have hra := ownsRow_chg hrw3 (chgB hB4 fun _ => False) fun _ _ z => z
            have hrb := ownsRow_chg hrow3 (chgB hB4 fun _ => False) fun _ _ z => z
            have hG4 := (hG3.later hB4).grow (m' := V4.heap.size) hB4.size (Nat.le_refl _)
            have HRA := Lib.hid hra
            have HRB := Lib.hid hrb
            have HG4 := Lib.hid hG4
            have HV4 := Lib.hid hV4
            clear hB4 hV4 hD4 hC4 hC3 hrw3 hrow3 hra hrb hG3 hG4 hch3 cb1 cb2 hwb1
            go_wp2_with fail
            rw [HV4.out]
            clear x0 x1 x2 x3 hx1 hx2 hl1
            go_loopg [25] nn (fun kk jv wx => ∃ t, kk = nn - t ∧ t ≤ nn ∧ jv = .int .i64 t ∧ wx = V4)
            case atStart => exact ⟨0, by simp, by omega, rfl, rfl⟩
            case round =>
              obtain ⟨t, rfl, ht, rfl, rfl⟩ := hrel
              by_cases htl : t < nn
              · have htI : (t : Int) < (nn : Int) := by omega
                have ht0 : (0 : Int) ≤ (t : Int) := by omega
                obtain ⟨x, hx⟩ : ∃ x, dc.nums[t]? = some x := ⟨_, List.getElem?_eq_getElem (by rw [HE.out.2.1]; exact htl)⟩
                obtain ⟨ga, rfl, _, _, ka⟩ := row_at HRA.out (j := t) (x := .int .i64 (shN K x)) (by rw [HE.out.1, List.getElem?_map, List.getElem?_map, hx]; rfl) (by rw [HE.out.1, List.length_map, List.length_map, HE.out.2.1])
                obtain ⟨gb, rfl, _, _, kb⟩ := row_at HRB.out (j := t) (x := .int .i64 x) (by rw [List.getElem?_map, hx]; rfl) (by rw [List.length_map, HE.out.2.1])
                have hxb := HE.out.2.2.1 x (List.mem_of_getElem? hx)
                have hbl := HE.out.2.2.2
                by_cases hxK : (K : Int) < x
                · have hsh : shN K x = x + 1 := by unfold shN; rw [if_pos hxK]
                  have hwx : IntKind.i64.wrap (x + 1) = x + 1 := by rw [IntKind.wrap_i64]; omega
                  rw [hsh] at ka
                  clear hx hsh hbl
                  go_wp2_with fail
                  go_roundg (nn - (t + 1))
                  case measure => omega
                  case rel => exact ⟨t + 1, rfl, by omega, by go_num, rfl⟩
                · have hsh : shN K x = x := by unfold shN; rw [if_neg hxK]
                  rw [hsh] at ka
                  clear hx hsh hbl
                  go_wp2_with fail
                  go_roundg (nn - (t + 1))
                  case measure => omega
                  case rel => exact ⟨t + 1, rfl, by omega, by go_num, rfl⟩
              · obtain rfl : t = nn := by omega
                go_wp2_with fail
                go_roundg (200 - (i + 1))
                case measure => omega
                case rel =>
                  refine ⟨i + 1, a2.sent c, b2.sent dc, rfl, by omega, rfl, by go_num, HG4, Lib.hid ⟨HT2.out.1, HT2.out.2.1, ?_, HT2.out.2.2.2.1, HT2.out.2.2.2.2, ⟨hT.out.2.2.2.2.2.1.last, hT.out.2.2.2.2.2.1.now⟩, ⟨hT.out.2.2.2.2.2.2.last, hT.out.2.2.2.2.2.2.now⟩⟩⟩
                  have u1 := HT2.out.2.2.1
                  have u2 : (a2.sent c).cs.length = a2.cs.length + 1 := by simp [St.sent]
                  have u3 := hT.out.2.2.1
                  omega
end Go.Proofs.YticobikhndlejaaGreatDoor

/- What the row's condition on errors.errorType gives a walk; a world that meets it. -/
namespace Go.Proofs.YticobikhndlejaaGreatDoor
open Go.ChangeShapes Go.WideShapes Go.RowKit

abbrev laidL : List (String × DataW Unit) := [("errors.errorType", Rows.laid_errors_errorType)]
theorem Tryz.own : ownKnob Tryz.prog.godebug = none := by kernel_rfl
theorem Tryz.et : Tryz.prog.globalNamed "errors.errorType" = some 0 := by kernel_rfl
theorem Tryz.rt : (Tryz.prog.cutTypes.find? (·.1 == "internal/reflectlite.rtype")).map (·.2) = some 205 := by kernel_rfl
theorem Tryz.oneRow : ((List.range 286).filter fun t => Tryz.prog.rowNamed t [101, 114, 114, 111, 114]) = [81] := by kernel_rfl
theorem Tryz.size : Tryz.prog.types.size = 286 := by kernel_rfl

/-- WHAT THE CONDITION GIVES A WALK: the variable's one cell. -/
theorem handle_of_laid {W : World} (h : laidMetH Tryz.prog laidL W) : ErrVar W := by
  have h' : laidMet Tryz.prog [] W ∧ handlesMet Tryz.prog laidL W := h
  obtain ⟨name, u, ty, e1, e2, e3, e4, e5⟩ := h'.2 _ (List.mem_singleton.2 rfl)
  have en : name = [101, 114, 114, 111, 114] := (Option.some.inj e1).symm
  subst en
  obtain rfl := Option.some.inj (Tryz.rt.symm.trans e2)
  have hm : ty ∈ (List.range 286).filter fun t => Tryz.prog.rowNamed t [101, 114, 114, 111, 114] := List.mem_filter.2 ⟨List.mem_range.2 (by rw [← Tryz.size]; exact e3), e4⟩
  rw [Tryz.oneRow] at hm
  obtain rfl := List.mem_singleton.1 hm
  have hh : typeHandle Tryz.prog 81 = .pointer (some ⟨1, 81, none⟩) := by kernel_rfl
  rw [hh] at e5
  simpa using World.var?_cell Tryz.et e5 0

/-- A world that meets the condition: the settled one, the variable's cell laid. -/
noncomputable def laidWorld (os : Os) : World :=
  let w0 := World.holding Tryz.prog os ⟨#[], #[], []⟩
  { w0 with heap := w0.heap.modify 0 fun
      | .cells _ t frozen => .cells #[rty 81] t frozen
      | o => o }
theorem laidWorld_met (os : Os) (args : Array Value) : laidMetH Tryz.prog laidL ((laidWorld os).forCall (fun _ _ => 0) ⟨#[], args, []⟩).memory :=
  laidMetH_of_parts (laidMet_nil _ _) (by kernel_rfl)
end Go.Proofs.YticobikhndlejaaGreatDoor
