/- Bounded in plain Lean: what is under way, and what waits. -/
import Derived.Test.YticobikhndlejaaGreatDoorBoP
import Derived.Test.YticobikhndlejaaGreatDoorBoT
import Derived.Test.YticobikhndlejaaGreatDoorBoD
import Derived.ChangeSame
import Derived.ChangeVars
import Derived.JoinedOf
import Derived.RowKit
import Derived.RowKitTokens
import Derived.LaidLaws
import Derived.LaidHandle
import Derived.Stop.Joined
namespace Go.Proofs.YticobikhndlejaaGreatDoor

/-- No request is in two commands, none that waits is in one. -/
theorem seen_nodup {t : St} (h : t.Ok) : (t.waiting ++ t.cs.flatMap (·.nums)).Nodup := by
  rw [List.nodup_append]
  refine ⟨?_, h.a.rs.nodup, fun a ha b hb e => ?_⟩
  · unfold St.waiting
    refine List.pairwise_map.2 ((h.a.rs.nums.filter _).imp fun hlt e => by omega)
  · subst e
    unfold St.waiting at ha
    obtain ⟨r, hr, rfl⟩ := List.mem_map.1 ha
    obtain ⟨hr1, hr2⟩ := List.mem_filter.1 hr
    obtain ⟨o, ho, hon, hoa⟩ := h.a.rs.fly _ hb
    have := rnum_inj h.a.rs.nums ho hr1 hon
    subst this
    have := (h.a.rs.ok o ho).air hoa
    simp at hr2
    omega
/-- Who writes is alone on its pages. -/
theorem apart_of {t : St} (h : t.Ok) {j k : Nat} {c d : Cmd} (hj : t.cs[j]? = some c) (hk : t.cs[k]? = some d) (hjk : j < k) (h1 : c.page < d.page + d.count) (h2 : d.page < c.page + c.count) : c.write = false ∧ d.write = false := by
  have hcm := List.mem_of_getElem? hj
  have hdm := List.mem_of_getElem? hk
  have hc := h.cmds c hcm
  have hd := h.cmds d hdm
  obtain ⟨p, hp⟩ : ∃ p, max c.page d.page = p := ⟨_, rfl⟩
  have hc1 := hc.count
  have hd1 := hd.count
  obtain ⟨r, hr, hrc, hrp⟩ := hc.all (p : Int) (by omega) (by omega)
  obtain ⟨o, ho, hod, hop⟩ := hd.all (p : Int) (by omega) (by omega)
  obtain ⟨r', hr', hrn, hra⟩ := CmdOk.air h hcm hrc
  obtain ⟨o', ho', hon, hoa⟩ := CmdOk.air h hdm hod
  obtain rfl := rnum_inj h.a.rs.nums hr' hr hrn
  obtain rfl := rnum_inj h.a.rs.nums ho' ho hon
  obtain ⟨r1, hr1, hr1n, hr1w, _⟩ := hc.ins _ hrc
  obtain ⟨o1, ho1, ho1n, ho1w, _⟩ := hd.ins _ hod
  obtain rfl := rnum_inj h.a.rs.nums hr1 hr hr1n
  obtain rfl := rnum_inj h.a.rs.nums ho1 ho ho1n
  have hne : r1.num ≠ o1.num := fun e => by
    have hnd := (List.pairwise_flatMap.1 h.a.rs.nodup).2
    obtain ⟨hjl, hje⟩ := List.getElem?_eq_some_iff.1 hj
    obtain ⟨hkl, hke⟩ := List.getElem?_eq_some_iff.1 hk
    have := List.pairwise_iff_getElem.1 hnd j k hjl hkl hjk
    rw [hje, hke] at this
    exact this _ hrc _ hod e
  have key : ∀ a b : Req, a ∈ t.rs → b ∈ t.rs → a.inAir = true → b.inAir = true → a.page = b.page → a.num < b.num → a.write = false ∧ b.write = false := fun a b ha hb haa hba hpp hlt => by
    have := h.a.rs.free b hb hba a ha
    unfold Req.blocks at this
    simp only [hlt, hpp, haa, Bool.or_true, Bool.and_true, decide_true, Bool.true_and, beq_self_eq_true] at this
    simpa using this
  rw [← hr1w, ← ho1w]
  rcases Int.lt_or_gt_of_ne hne with hlt | hlt
  · exact key r1 o1 hr ho hra hoa (by omega) hlt
  · exact (key o1 r1 ho hr hoa hra (by omega) hlt).symm
end Go.Proofs.YticobikhndlejaaGreatDoor

/- elevatorkeep.Bounded by contract: it answers true. -/
namespace Go.Proofs.YticobikhndlejaaGreatDoor
open Go.RowKit Go.Shelf Go.Lib

/-- What Bounded has seen: who waits, and who is in the first k commands. -/
def seenK (t : St) (k : Nat) : List Int := t.waiting ++ (t.cs.take k).flatMap (·.nums)
theorem seenK_succ {t : St} {k : Nat} {c : Cmd} (h : t.cs[k]? = some c) : seenK t (k + 1) = seenK t k ++ c.nums := by
  obtain ⟨h1, h2⟩ := List.getElem?_eq_some_iff.1 h
  unfold seenK
  rw [List.take_succ_eq_append_getElem h1, h2, List.flatMap_append, List.append_assoc]
  simp
theorem seenK_all {t : St} {k : Nat} (h : t.cs.length ≤ k) : seenK t k = t.waiting ++ t.cs.flatMap (·.nums) := by
  unfold seenK
  rw [List.take_of_length_le h]
theorem seen_len {t : St} (h : t.Ok) (k : Nat) : ((seenK t k).length : Int) ≤ t.last := by
  have hnd : (seenK t k).Nodup := (seen_nodup h).sublist (List.Sublist.append (List.Sublist.refl _) (by
    conv => rhs; rw [← List.take_append_drop k t.cs, List.flatMap_append]
    exact List.sublist_append_left _ _))
  have := len_sub _ hnd (t.rs.map (·.num)) fun n hn => by
    rcases List.mem_append.1 hn with hn | hn
    · unfold St.waiting at hn
      obtain ⟨r, hr, rfl⟩ := List.mem_map.1 hn
      exact List.mem_map_of_mem (List.mem_filter.1 hr).1
    · obtain ⟨c, hc, hn⟩ := List.mem_flatMap.1 hn
      obtain ⟨r, hr, hrn, _⟩ := (h.cmds c (List.mem_of_mem_take hc)).ins n hn
      exact List.mem_map.2 ⟨r, hr, hrn⟩
  rw [List.length_map] at this
  have := ok_len h
  omega
set_option maxRecDepth 100000 in
set_option maxHeartbeats 4000000 in
theorem bounded_true (d : Int) (s : ByteArray) (w : World) (hg : ErrVar w) (h1 : -9223372036854775808 ≤ d ∧ d ≤ 9223372036854775807) (hsz : s.size ≤ maxLen) :
    Calls Tryz.prog 6 #[.int .i64 d, .string s] w fun x w' => x = .returned (.bool true) ∧ Below w.heap.size w w' := by
  have hp := pickI_lt d (n := 4) (by omega)
  obtain ⟨D, hD⟩ : ∃ D, (1 + pickI d 4).toNat = D := ⟨_, rfl⟩
  have hDI : 1 + pickI d 4 = (D : Int) := by omega
  have hD4 : 1 ≤ D ∧ D ≤ 4 := by omega
  have hwD : IntKind.i64.wrap (1 + pickI d 4) = (D : Int) := by rw [IntKind.wrap_i64]; omega
  have HG := Lib.hid hg
  have HDI := Lib.hid hDI
  have HDD := Lib.hid hD
  clear hg hp hDI hD
  by_cases hbig : (s.size : Int) > 65536
  · go_enter Tryz.func6, Tryz.ntmps6
    go_wp2_with fail
    go_ret
    exact ⟨rfl, Below.refl _ _⟩
  go_enter Tryz.func6, Tryz.ntmps6
  go_wp2_with fail
  refine (begun_o d w HG.out h1).mono ?_
  rintro y w1 ⟨wo, rfl, hK⟩
  rw [HDD.out] at hK
  have HK := Lib.hid hK
  clear hK
  go_wp2_with fail
  go_loopg [6, 7] s.size (fun k ok i wr => ∃ (j : Nat) (x : KW), k = s.size - j ∧ j ≤ s.size ∧ ok = .bool true ∧ i = .int .i64 j ∧ KO w wr wo x ∧ Hid (At D j x))
  case atStart => exact ⟨0, _, by simp, by omega, rfl, rfl, HK.out, Lib.hid (At.new hD4)⟩
  case round =>
    obtain ⟨j, x, rfl, hj, rfl, rfl, hKr, hAt⟩ := hrel
    by_cases hlt : j < s.size
    · have hltI : (j : Int) < (s.size : Int) := by omega
      have g0 : (0 : Int) ≤ (j : Int) := by omega
      obtain ⟨b, hb⟩ : ∃ b : UInt8, s[j] = b := ⟨_, rfl⟩
      have hbn := b.toNat_lt
      have HKr := Lib.hid hKr
      clear hKr
      go_wp2_with fail
      refine (act_o HKr.out HG.out hAt.out.inv (hAt.out.small (by omega)) (hAt.out.tick (by omega)) (by have := hAt.out.rs; omega) b.toNat (by omega)).mono ?_
      rintro y w2 ⟨rfl, hK2⟩
      obtain ⟨x2, hx2⟩ : ∃ x2, x.act b.toNat = x2 := ⟨_, rfl⟩
      rw [hx2] at hK2
      have hAt2 : At D (j + 1) x2 := hx2 ▸ hAt.out.act b.toNat (by omega)
      have hsm2 := hAt2.small (by omega)
      obtain ⟨q, c0, hwl, hFl⟩ := flights_o hK2 hAt2.inv.ok hsm2
      have HFL := Lib.hid (hFl _ (Below.refl _ _))
      have HK2 := Lib.hid hK2
      have HA2 := Lib.hid hAt2
      have HS2 := Lib.hid hsm2
      have hl2 : x2.t.last ≤ 65537 := by have := hAt2.last; omega
      clear hK2 hAt2 hsm2 hFl hx2
      go_wp2_with fail
      refine HFL.out.mono ?_
      rintro y w3 ⟨v, cs', rfl, hcs, hC, hB3⟩
      obtain ⟨nf, hnf⟩ : ∃ nf, cs'.length = nf := ⟨_, rfl⟩
      have hnfx : x2.t.cs.length = nf := by rw [← hcs, List.length_map, hnf]
      have hnfD : nf ≤ D := by have := HA2.out.inv.ok.len; have := HA2.out.depth; omega
      have hnfI : ¬ ((nf : Int) > (D : Int)) := by omega
      have hrow := hC.row
      rw [hnf] at hrow
      obtain ⟨va, vc, rfl⟩ := own_slice hrow
      have c3 := (hB3.cell (p := ⟨wo, 0, none⟩) hwl).trans c0
      obtain ⟨q', c0', hwl', hWt⟩ := waiting_o (HK2.out.later hB3) HA2.out.inv.ok HS2.out
      obtain rfl : q' = q := by have := c0'.symm.trans c3; simpa [ptr] using this
      have HWT := Lib.hid (hWt _ (Below.refl _ _))
      have HC := Lib.hid hC
      have HB3 := Lib.hid hB3
      have HCS := Lib.hid (And.intro hcs (And.intro hnf hnfx))
      clear hrow hC hcs hnf hnfx hWt hB3 c0'
      go_wp2_with fail
      refine (pick_any d 4 _ h1 (by omega)).mono ?_
      rintro y w3' ⟨rfl, rfl⟩
      go_wp2_with fail
      refine HWT.out.mono ?_
      rintro y w4 ⟨v4, rfl, hrow4, hB4⟩
      obtain ⟨nw, hnw⟩ : ∃ nw, x2.t.waiting.length = nw := ⟨_, rfl⟩
      have hnwl : nw ≤ 65537 := by
        have := seen_len HA2.out.inv.ok 0
        unfold seenK at this
        simp only [List.take_zero, List.flatMap_nil, List.append_nil] at this
        omega
      rw [hnw] at hrow4
      obtain ⟨wa, wc, rfl⟩ := own_slice hrow4
      have HR4 := Lib.hid hrow4
      have HB4 := Lib.hid hB4
      have HNW := Lib.hid hnw
      clear hrow4 hB4 hnw
      go_wp2_with (at_builtin; refine wpList_append_ints rfl _ _ rfl w4.heap.size _ _ _ 0 nw [] _ rfl rfl (World.ownsRow_nil _ _ _ _) HR4.out (by intro u hu; obtain ⟨n, _, rfl⟩ := List.mem_map.1 hu; rfl) (by omega) (Nat.le_refl _) ?_)
      intro v5 w5 hrow5 hB5
      have hrow5' : w5.ownsRow w4.heap.size 3 1 v5 (seenK x2.t 0).length ((seenK x2.t 0).map fun n => Value.int .i64 n) := by
        have e : seenK x2.t 0 = x2.t.waiting := by unfold seenK; simp
        rw [e, HNW.out]
        simpa using hrow5
      have HR5 := Lib.hid (And.intro hrow5' hB5)
      clear hrow5 hrow5' hB5
      go_wp2_with fail
      go_loopg [10, 11] nf (fun kk sv kv wx => ∃ (k2 : Nat), kk = nf - k2 ∧ k2 ≤ nf ∧ kv = .int .i64 k2 ∧ wx.ownsRow w4.heap.size 3 1 sv (seenK x2.t k2).length ((seenK x2.t k2).map fun n => Value.int .i64 n) ∧ Below w4.heap.size w4 wx)
      case atStart => exact ⟨0, by simp, by omega, rfl, HR5.out.1, HR5.out.2⟩
      case round =>
        obtain ⟨k2, rfl, hk2, rfl, hrs, hBx⟩ := hrel
        by_cases hk2l : k2 < nf
        · have hk2I : (k2 : Int) < (nf : Int) := by omega
          have hCx := HC.out.later (HB4.out.trans (hBx.mono HB4.out.size))
          obtain ⟨⟨c, cv⟩, hc⟩ : ∃ c, cs'[k2]? = some c := ⟨_, List.getElem?_eq_getElem (by rw [HCS.out.2.1]; exact hk2l)⟩
          have hcx : x2.t.cs[k2]? = some c := by rw [← HCS.out.1, List.getElem?_map, hc]; rfl
          have hcm : (c, cv) ∈ cs' := List.mem_of_getElem? hc
          have hcxm : c ∈ x2.t.cs := List.mem_of_getElem? hcx
          have hrowc := hCx.rows _ hcm
          obtain ⟨ra, rc, rfl⟩ : ∃ ra rc, cv = .slice ra c.nums.length rc := own_slice hrowc
          obtain ⟨g, cap, e, _, hgl, hcell⟩ := cmd_cells hCx.row hc
          simp only [Value.slice.injEq] at e
          obtain ⟨rfl, hdrop, rfl⟩ := e
          clear hdrop
          obtain ⟨m, hm⟩ : ∃ m, c.nums.length = m := ⟨_, rfl⟩
          have hck := HA2.out.inv.ok.cmds c hcxm
          have p0 : wr.cell? ⟨g, k2 * 4, none⟩ = some (.bool c.write) := hcell 0 _ rfl
          have p1 : wr.cell? ⟨g, k2 * 4 + 1, none⟩ = some (.int .i64 c.page) := hcell 1 _ rfl
          have p2 : wr.cell? ⟨g, k2 * 4 + 2, none⟩ = some (.int .i64 c.count) := hcell 2 _ rfl
          have p3 : wr.cell? ⟨g, k2 * 4 + 3, none⟩ = some (.slice ra m rc) := by rw [← hm]; exact hcell 3 _ rfl
          simp only at hrowc
          rw [hm] at hrowc
          have e1 := hck.count
          have e2 := hck.page
          have e3 := hck.len
          have e4 := hck.wlen
          rw [hm] at e3 e4
          have t1 : ¬ ((c.count : Int) < 1) := by omega
          have t2 : ¬ ((c.count : Int) > 4) := by omega
          have t3 : ¬ ((c.page : Int) < 0) := by omega
          have t4 : ¬ ((c.page : Int) + (c.count : Int) > 16) := by omega
          have t5 : ¬ ((m : Int) < (c.count : Int)) := by omega
          have t6 : IntKind.i64.wrap ((c.page : Int) + (c.count : Int)) = (c.page : Int) + (c.count : Int) := by rw [IntKind.wrap_i64]; omega
          have hlm : (seenK x2.t k2).length + m ≤ 70000 := by
            have h8 := seen_len HA2.out.inv.ok (k2 + 1)
            rw [seenK_succ hcx, List.length_append, hm] at h8
            omega
          have HX := Lib.hid (And.intro hcx (And.intro hcxm hm))
          have HRC := Lib.hid hrowc
          have HRS := Lib.hid hrs
          have HBX := Lib.hid hBx
          have HCX := Lib.hid hCx
          have hb4 := hBx.size
          clear hcell hc hcm hcx hcxm hm hrowc hck hrs hBx hCx
          obtain ⟨cw, hcw⟩ : ∃ cw, c.write = cw := ⟨_, rfl⟩
          rw [hcw] at p0 e4
          obtain ⟨W1, hW1⟩ : ∃ W1, wr.alloc (.cells #[.bool cw, .int .i64 c.page, .int .i64 c.count, .slice ra m rc] 48) = W1 := ⟨_, rfl⟩
          have hR1 : W1.heap[wr.heap.size]? = some (.cells #[.bool cw, .int .i64 c.page, .int .i64 c.count, .slice ra m rc] 48 (0, 0)) := by rw [← hW1]; exact World.alloc_heap_new _ _
          have hB1 : Below wr.heap.size wr W1 := by rw [← hW1]; exact (Below.refl _ _).alloc (Nat.le_refl _) _
          have HW1 := Lib.hid hW1
          have HR1 := Lib.hid hR1
          have HB1 := Lib.hid hB1
          have HCW := Lib.hid hcw
          have hg4 : g < w4.heap.size := by
            have := HC.out.row
            rw [HCS.out.2.1] at this
            obtain ⟨cur, hcur⟩ := own_heap this rfl
            exact Nat.lt_of_lt_of_le (lt_of_heap hcur) HB4.out.size
          clear hW1 hR1 hB1 hcw
          have e5 : cw = true → m = c.count := e4
          clear e4
          cases cw
          all_goals
            try (obtain rfl : m = c.count := e5 rfl)
            go_wp2_with fail
            rw [HW1.out]
            obtain ⟨W0, rfl⟩ : ∃ z, z = wr := ⟨_, rfl⟩
            go_loopg [13] k2 (fun kk jv wy => ∃ (j3 : Nat), kk = k2 - j3 ∧ j3 ≤ k2 ∧ jv = .int .i64 j3 ∧ Hid (Below W1.heap.size W1 wy))
            case atStart => exact ⟨0, by simp, by omega, rfl, Lib.hid (Below.refl _ _)⟩
            case round =>
              obtain ⟨j3, rfl, hj3, rfl, hBy⟩ := hrel
              have hRy := (hBy.out.block _ (lt_of_heap HR1.out)).trans HR1.out
              by_cases hj3l : j3 < k2
              · have hj3I : (j3 : Int) < (k2 : Int) := by omega
                have hj3n : (j3 : Int) < (nf : Int) := by omega
                have hCy := HCX.out.later (HB1.out.trans (hBy.out.mono HB1.out.size))
                obtain ⟨⟨o, ov⟩, ho⟩ : ∃ o, cs'[j3]? = some o := ⟨_, List.getElem?_eq_getElem (by rw [HCS.out.2.1]; omega)⟩
                have hox : x2.t.cs[j3]? = some o := by rw [← HCS.out.1, List.getElem?_map, ho]; rfl
                obtain ⟨g', cap', e, _, hgl', hcell⟩ := cmd_cells hCy.row ho
                simp only [Value.slice.injEq, Option.some.injEq, Addr.mk.injEq] at e
                obtain ⟨⟨rfl, _⟩, hdrop, rfl⟩ := e
                clear hdrop
                have z0 : wr.cell? ⟨g, j3 * 4, none⟩ = some (.bool o.write) := hcell 0 _ rfl
                have z1 : wr.cell? ⟨g, j3 * 4 + 1, none⟩ = some (.int .i64 o.page) := hcell 1 _ rfl
                have z2 : wr.cell? ⟨g, j3 * 4 + 2, none⟩ = some (.int .i64 o.count) := hcell 2 _ rfl
                have y0 := cell_of (i := 0) hRy rfl
                have y1 := cell_of (i := 1) hRy rfl
                have y2 := cell_of (i := 2) hRy rfl
                have hok := HA2.out.inv.ok.cmds o (List.mem_of_getElem? hox)
                have f1 := hok.count
                have f2 := hok.page
                have t7 : IntKind.i64.wrap ((o.page : Int) + (o.count : Int)) = (o.page : Int) + (o.count : Int) := by rw [IntKind.wrap_i64]; omega
                have hap := apart_of HA2.out.inv.ok hox HX.out.1 hj3l
                have HAP := Lib.hid hap
                clear hcell ho hox hCy hRy hok hap
                by_cases m1 : (o.page : Int) < (c.page : Int) + (c.count : Int)
                · by_cases m2 : (c.page : Int) < (o.page : Int) + (o.count : Int)
                  · obtain ⟨ow, cw0⟩ := HAP.out (by omega) (by omega)
                    first
                      | (exact absurd (HCW.out.symm.trans cw0) (by decide))
                      | (rw [ow] at z0
                         go_wp2_with fail
                         go_quiet (fail)
                         go_wp2_with fail
                         go_roundg (k2 - (j3 + 1))
                         case measure => omega
                         case rel => exact ⟨j3 + 1, rfl, by omega, by go_num, Lib.hid (below_drewN hBy.out _)⟩)
                  · go_wp2_with fail
                    go_quiet (fail)
                    go_wp2_with fail
                    go_roundg (k2 - (j3 + 1))
                    case measure => omega
                    case rel => exact ⟨j3 + 1, rfl, by omega, by go_num, Lib.hid (below_drewN hBy.out _)⟩
                · have dm1 : decide ((o.page : Int) < (c.page : Int) + (c.count : Int)) = false := decide_eq_false m1
                  clear m1
                  go_wp2_with fail
                  go_quiet (fail)
                  go_wp2_with fail
                  go_roundg (k2 - (j3 + 1))
                  case measure => omega
                  case rel => exact ⟨j3 + 1, rfl, by omega, by go_num, Lib.hid (below_drewN hBy.out _)⟩
              · obtain rfl : j3 = k2 := by omega
                have y3 := cell_of (i := 3) hRy rfl
                have hBz := HBX.out.trans ((HB1.out.trans (hBy.out.mono HB1.out.size)).mono hb4)
                have hrz := ownsRow_chg HRS.out (chgB (HB1.out.trans (hBy.out.mono HB1.out.size)) fun _ => False) fun _ _ x => x
                have hrcz := ownsRow_chg HRC.out (chgB (HB1.out.trans (hBy.out.mono HB1.out.size)) fun _ => False) fun _ _ x => x
                have hsc := seenK_succ HX.out.1
                have HSC := Lib.hid hsc
                have hmz := HX.out.2.2
                have HBZ := Lib.hid hBz
                obtain ⟨sa, sc, rfl⟩ := own_slice hrz
                have HRZ := Lib.hid hrz
                have HRCZ := Lib.hid hrcz
                have HMZ := Lib.hid hmz
                clear hRy hBz hrz hrcz hsc hmz
                go_wp2_with (at_builtin; refine wpList_append_ints rfl _ _ rfl w4.heap.size _ _ _ _ _ _ _ rfl rfl HRZ.out HRCZ.out (by intro u hu; obtain ⟨n, _, rfl⟩ := List.mem_map.1 hu; rfl) (by omega) HBZ.out.size ?_)
                intro v6 w6 hrow6 hB6
                have hrow6' : w6.ownsRow w4.heap.size 3 1 v6 (seenK x2.t (j3 + 1)).length ((seenK x2.t (j3 + 1)).map fun n => Value.int .i64 n) := by
                  rw [HSC.out, List.length_append, HMZ.out, List.map_append]
                  exact hrow6
                have HR6 := Lib.hid (And.intro hrow6' (HBZ.out.trans hB6))
                clear hrow6 hrow6' hB6
                go_wp2_with fail
                go_roundg (nf - (j3 + 1))
                case measure => omega
                case rel => exact ⟨j3 + 1, rfl, by omega, by go_num, HR6.out.1, HR6.out.2⟩
        · obtain rfl : k2 = nf := by omega
          have hnd : (seenK x2.t k2).Nodup := by
            rw [seenK_all (by rw [HCS.out.2.2]; exact Nat.le_refl _)]
            exact seen_nodup HA2.out.inv.ok
          have hlS := seen_len HA2.out.inv.ok k2
          obtain ⟨S, hS⟩ : ∃ S, seenK x2.t k2 = S := ⟨_, rfl⟩
          obtain ⟨L, hL⟩ : ∃ L, S.length = L := ⟨_, rfl⟩
          rw [hS] at hnd hrs hlS
          rw [hL] at hrs hlS
          have hL5 : L ≤ 65537 := by omega
          obtain ⟨sa, sc, rfl⟩ := own_slice hrs
          have hKf : KO w wr wo x2 := HK2.out.later (HB3.out.trans ((HB4.out.trans (hBx.mono HB4.out.size)).mono HB3.out.size))
          have HND := Lib.hid (And.intro hnd hL)
          have HRS := Lib.hid hrs
          have HKF := Lib.hid hKf
          clear hnd hL hS hlS hrs hBx hKf
          go_wp2_with fail
          obtain ⟨W0, rfl⟩ : ∃ z, z = wr := ⟨_, rfl⟩
          go_loopg [15] L (fun kk av wy => ∃ (a : Nat), kk = L - a ∧ a ≤ L ∧ av = .int .i64 a ∧ Hid (Below W0.heap.size W0 wy))
          case atStart => exact ⟨0, by simp, by omega, rfl, Lib.hid (Below.refl _ _)⟩
          case round =>
            obtain ⟨a, rfl, ha, rfl, hBa⟩ := hrel
            by_cases hal : a < L
            · have halI : (a : Int) < (L : Int) := by omega
              obtain ⟨na, hna⟩ : ∃ na, S[a]? = some na := ⟨_, List.getElem?_eq_getElem (by rw [HND.out.2]; exact hal)⟩
              have HNA := Lib.hid hna
              clear hna
              go_wp2_with fail
              go_loopg [16] a (fun kk bv wy => ∃ (b' : Nat), kk = a - b' ∧ b' ≤ a ∧ bv = .int .i64 b' ∧ Hid (Below W0.heap.size W0 wy))
              case atStart => exact ⟨0, by simp, by omega, rfl, hBa⟩
              case round =>
                obtain ⟨b', rfl, hb', rfl, hBb⟩ := hrel
                by_cases hbl : b' < a
                · have hblI : (b' : Int) < (a : Int) := by omega
                  have hblL : (b' : Int) < (L : Int) := by omega
                  obtain ⟨nb, hnb⟩ : ∃ nb, S[b']? = some nb := ⟨_, List.getElem?_eq_getElem (by rw [HND.out.2]; omega)⟩
                  have hrb := ownsRow_chg HRS.out (chgB hBb.out fun _ => False) fun _ _ x => x
                  obtain ⟨gs, rfl, _, _, hca⟩ := row_at hrb (j := a) (x := .int .i64 na) (by rw [List.getElem?_map, HNA.out]; rfl) (by rw [List.length_map]; exact HND.out.2)
                  obtain ⟨gs', e, _, _, hcb⟩ := row_at hrb (j := b') (x := .int .i64 nb) (by rw [List.getElem?_map, hnb]; rfl) (by rw [List.length_map]; exact HND.out.2)
                  simp only [Option.some.injEq, Addr.mk.injEq] at e
                  obtain ⟨rfl, _⟩ := e
                  have hne : (na == nb) = false := by
                    rw [beq_eq_false_iff_ne]
                    intro hh
                    subst hh
                    obtain ⟨q1, q2⟩ := List.getElem?_eq_some_iff.1 HNA.out
                    obtain ⟨q3, q4⟩ := List.getElem?_eq_some_iff.1 hnb
                    exact List.pairwise_iff_getElem.1 HND.out.1 b' a q3 q1 hbl (q4.trans q2.symm)
                  clear hrb hnb
                  go_wp2_with fail
                  go_quiet (fail)
                  go_wp2_with fail
                  go_roundg (a - (b' + 1))
                  case measure => omega
                  case rel => exact ⟨b' + 1, rfl, by omega, by go_num, Lib.hid (below_drewN hBb.out _)⟩
                · obtain rfl : b' = a := by omega
                  go_wp2_with fail
                  go_roundg (L - (b' + 1))
                  case measure => omega
                  case rel => exact ⟨b' + 1, rfl, by omega, by go_num, hBb⟩
            · obtain rfl : a = L := by omega
              go_wp2_with fail
              go_roundg (s.size - (j + 1))
              case measure => omega
              case rel => exact ⟨j + 1, x2, rfl, by omega, rfl, by go_num, HKF.out.later hBa.out, HA2⟩
    · obtain rfl : j = s.size := by omega
      go_wp2_with fail
      go_ret
      exact ⟨rfl, hKr.below⟩
end Go.Proofs.YticobikhndlejaaGreatDoor

/- What the row's condition on errors.errorType gives a walk; a world that meets it. -/
namespace Go.Proofs.YticobikhndlejaaGreatDoor
open Go.ChangeShapes Go.WideShapes Go.RowKit

abbrev laidL : List (String × DataW Unit) := [("errors.errorType", Rows.laid_errors_errorType)]
theorem Tryz.own : ownKnob Tryz.prog.godebug = none := by kernel_rfl
theorem Tryz.et : Tryz.prog.globalNamed "errors.errorType" = some 0 := by kernel_rfl
theorem Tryz.rt : (Tryz.prog.cutTypes.find? (·.1 == "internal/reflectlite.rtype")).map (·.2) = some 205 := by kernel_rfl
theorem Tryz.oneRow : ((List.range 286).filter fun t => Tryz.prog.rowNamed t [101, 114, 114, 111, 114]) = [81] := by kernel_rfl
theorem Tryz.size : Tryz.prog.types.size = 286 := by kernel_rfl

/-- WHAT THE CONDITION GIVES A WALK: the variable's one cell. -/
theorem handle_of_laid {W : World} (h : laidMetH Tryz.prog laidL W) : ErrVar W := by
  have h' : laidMet Tryz.prog [] W ∧ handlesMet Tryz.prog laidL W := h
  obtain ⟨name, u, ty, e1, e2, e3, e4, e5⟩ := h'.2 _ (List.mem_singleton.2 rfl)
  have en : name = [101, 114, 114, 111, 114] := (Option.some.inj e1).symm
  subst en
  obtain rfl := Option.some.inj (Tryz.rt.symm.trans e2)
  have hm : ty ∈ (List.range 286).filter fun t => Tryz.prog.rowNamed t [101, 114, 114, 111, 114] := List.mem_filter.2 ⟨List.mem_range.2 (by rw [← Tryz.size]; exact e3), e4⟩
  rw [Tryz.oneRow] at hm
  obtain rfl := List.mem_singleton.1 hm
  have hh : typeHandle Tryz.prog 81 = .pointer (some ⟨1, 81, none⟩) := by kernel_rfl
  rw [hh] at e5
  simpa using World.var?_cell Tryz.et e5 0

/-- A world that meets the condition: the settled one, the variable's cell laid. -/
noncomputable def laidWorld (os : Os) : World :=
  let w0 := World.holding Tryz.prog os ⟨#[], #[], []⟩
  { w0 with heap := w0.heap.modify 0 fun
      | .cells _ t frozen => .cells #[rty 81] t frozen
      | o => o }
theorem laidWorld_met (os : Os) (args : Array Value) : laidMetH Tryz.prog laidL ((laidWorld os).forCall (fun _ _ => 0) ⟨#[], args, []⟩).memory :=
  laidMetH_of_parts (laidMet_nil _ _) (by kernel_rfl)
end Go.Proofs.YticobikhndlejaaGreatDoor
