/- elevatorkeep.Kept by contract: it answers true. -/
import Derived.Test.YticobikhndlejaaGreatDoorKxT
import Derived.Test.YticobikhndlejaaGreatDoorKxU
namespace Go.Proofs.YticobikhndlejaaGreatDoor
open Go.RowKit Go.Shelf Go.Lib

/-- Which bytes of a text are odd. -/
def kBits (s : ByteArray) : List Bool := s.data.toList.map fun b => b.toNat % 2 == 1
theorem kBits_len (s : ByteArray) : (kBits s).length = s.size := by
  unfold kBits
  rw [List.length_map, Array.length_toList]
  rfl
theorem kBits_succ {s : ByteArray} {j : Nat} (hj : j < s.size) : (kBits s).take (j + 1) = (kBits s).take j ++ [s[j].toNat % 2 == 1] := by
  have h : j < (kBits s).length := by rw [kBits_len]; exact hj
  rw [List.take_succ_eq_append_getElem h]
  congr 2
  simp [kBits]
  rfl
theorem two_new {w w' : World} {A G : Obj} (h : Below ((w.alloc A).alloc G).heap.size ((w.alloc A).alloc G) w') : Below w.heap.size w w' ∧ w'.heap[w.heap.size]? = some A ∧ w'.heap[w.heap.size + 1]? = some G := by
  have b1 : Below (w.alloc A).heap.size (w.alloc A) ((w.alloc A).alloc G) := (Below.refl _ _).alloc (Nat.le_refl _) _
  have b0 : Below w.heap.size w (w.alloc A) := (Below.refl _ _).alloc (Nat.le_refl _) _
  have s1 : (w.alloc A).heap.size = w.heap.size + 1 := by simp
  refine ⟨(b0.trans (b1.mono (by omega))).trans (h.mono (by simp; omega)), ?_, ?_⟩
  · rw [h.block _ (by simp; omega), b1.block _ (by omega)]
    exact World.alloc_heap_new w A
  · rw [h.block _ (by simp)]
    have := World.alloc_heap_new (w.alloc A) G
    rwa [s1] at this
theorem Tryz.infoBl : (Tryz.prog.info? 4).map (fun i => (i.zero, i.size, i.bytes)) = some (some (.bool false), 1, 1) := by kernel_rfl
set_option maxRecDepth 100000 in
set_option maxHeartbeats 4000000 in
theorem kept_true (d : Int) (s k : ByteArray) (w : World) (hg : ErrVar w) (h1 : -9223372036854775808 ≤ d ∧ d ≤ 9223372036854775807) (hsz : s.size ≤ maxLen) (hkz : k.size ≤ maxLen) :
    Calls Tryz.prog 7 #[.int .i64 d, .string s, .string k] w fun x w' => x = .returned (.bool true) ∧ Below w.heap.size w w' := by
  have hp := pickI_lt d (n := 4) (by omega)
  obtain ⟨D, hD⟩ : ∃ D, (1 + pickI d 4).toNat = D := ⟨_, rfl⟩
  have hD4 : 1 ≤ D ∧ D ≤ 4 := by omega
  have HG := Lib.hid hg
  have HDD := Lib.hid hD
  clear hg hp hD
  by_cases hbig : (s.size : Int) > 65536
  · go_enter Tryz.func7, Tryz.ntmps7
    go_wp2_with fail
    go_ret
    exact ⟨rfl, Below.refl _ _⟩
  by_cases hbig2 : (k.size : Int) > 65536
  · go_enter Tryz.func7, Tryz.ntmps7
    go_wp2_with fail
    go_ret
    exact ⟨rfl, Below.refl _ _⟩
  go_enter Tryz.func7, Tryz.ntmps7
  go_wp2_with fail
  refine (begun_o d w HG.out h1).mono ?_
  rintro y w1 ⟨wo, rfl, hK⟩
  rw [HDD.out] at hK
  have HK := Lib.hid hK
  clear hK
  go_wp2_with fail
  go_loopg [8, 9] s.size (fun k ok i wr => ∃ (j : Nat) (x : KW), k = s.size - j ∧ j ≤ s.size ∧ ok = .bool true ∧ i = .int .i64 j ∧ KO w wr wo x ∧ Hid (At D j x))
  case atStart => exact ⟨0, _, by simp, by omega, rfl, rfl, HK.out, Lib.hid (At.new hD4)⟩
  case round =>
    obtain ⟨j, x, rfl, hj, rfl, rfl, hKr, hAt⟩ := hrel
    by_cases hlt : j < s.size
    · have hltI : (j : Int) < (s.size : Int) := by omega
      have g0 : (0 : Int) ≤ (j : Int) := by omega
      obtain ⟨b, hb⟩ : ∃ b : UInt8, s[j] = b := ⟨_, rfl⟩
      have hbn := b.toNat_lt
      have HKr := Lib.hid hKr
      clear hKr
      go_wp2_with fail
      refine (act_o HKr.out HG.out hAt.out.inv (hAt.out.small (by omega)) (hAt.out.tick (by omega)) (by have := hAt.out.rs; omega) b.toNat (by omega)).mono ?_
      rintro y w2 ⟨rfl, hK2⟩
      have hAt2 : At D (j + 1) (x.act b.toNat) := hAt.out.act b.toNat (by omega)
      have HK2 := Lib.hid hK2
      have HA2 := Lib.hid hAt2
      clear hK2 hAt2
      go_wp2_with fail
      go_roundg (s.size - (j + 1))
      case measure => omega
      case rel => exact ⟨j + 1, _, rfl, by omega, rfl, by go_num, HK2.out, HA2⟩
    · obtain rfl : j = s.size := by omega
      have hok := hAt.out.inv.ok
      have hsm := hAt.out.small (by omega)
      obtain ⟨W1, rfl⟩ : ∃ z, z = wr := ⟨_, rfl⟩
      obtain ⟨q, c0, hwl, hDk⟩ := disk_o hKr
      obtain ⟨q', c0', _, hFl⟩ := flights_o hKr hok hsm
      obtain rfl : q' = q := by have := c0'.symm.trans c0; simpa [ptr] using this
      obtain ⟨q'', c0'', _, hCr⟩ := crash_o hKr hok hsm
      obtain rfl : q'' = q' := by have := c0''.symm.trans c0; simpa [ptr] using this
      have HDK := Lib.hid (hDk _ (Below.refl _ _))
      have HFL := Lib.hid hFl
      have HCR := Lib.hid hCr
      have HKR := Lib.hid hKr
      clear hDk hFl hCr hKr c0' c0''
      go_wp2_with fail
      refine HDK.out.mono ?_
      rintro y w2 ⟨v1, rfl, hrow1, hB2, _⟩
      obtain ⟨da, dc, rfl⟩ := own_slice hrow1
      have c2 := (hB2.cell (p := ⟨wo, 0, none⟩) hwl).trans c0
      have HR1 := Lib.hid hrow1
      have HB2 := Lib.hid hB2
      clear hrow1 hB2
      go_wp2_with fail
      refine (HFL.out _ HB2.out).mono ?_
      rintro y w3 ⟨v2, cs', rfl, hcs, hC, hB3⟩
      obtain ⟨nf, hnf⟩ : ∃ nf, cs'.length = nf := ⟨_, rfl⟩
      have hnfx : x.t.cs.length = nf := by rw [← hcs, List.length_map, hnf]
      have hnf4 : nf ≤ 4 := by have := hok.len; have := hok.a.depth; omega
      have hrow := hC.row
      rw [hnf] at hrow
      obtain ⟨va, vc, rfl⟩ := own_slice hrow
      have hwl2 := Nat.lt_of_lt_of_le hwl HB2.out.size
      have c3 := (hB3.cell (p := ⟨wo, 0, none⟩) hwl2).trans c2
      have HC := Lib.hid hC
      have HB3 := Lib.hid (HB2.out.trans (hB3.mono HB2.out.size))
      have HB23 := Lib.hid hB3
      have HCS := Lib.hid (And.intro hcs (And.intro hnf hnfx))
      have HOK := Lib.hid (And.intro hok hsm)
      obtain ⟨i0, hi, hz0, hz1, hz2⟩ := info_parts Tryz.infoBl
      clear hrow hC hcs hnf hnfx hB3 hok hsm c0 c2
      go_wp2_with fail
      go_loopg [12, 13] k.size (fun kk lv iv wx => ∃ (j2 : Nat), kk = k.size - j2 ∧ j2 ≤ k.size ∧ iv = .int .i64 j2 ∧ wx.ownsRow w3.heap.size 4 1 lv j2 (((kBits k).take j2).map Value.bool) ∧ Below w3.heap.size w3 wx)
      case atStart => exact ⟨0, by simp, by omega, rfl, World.ownsRow_nil _ _ _ _, Below.refl _ _⟩
      case round =>
        obtain ⟨j2, rfl, hj2, rfl, hrl, hBl⟩ := hrel
        by_cases hl2 : j2 < k.size
        · have hl2I : (j2 : Int) < (k.size : Int) := by omega
          have g2 : (0 : Int) ≤ (j2 : Int) := by omega
          have hsucc := kBits_succ hl2
          obtain ⟨b, hb⟩ : ∃ b : UInt8, k[j2] = b := ⟨_, rfl⟩
          rw [hb] at hsucc
          have hbn := b.toNat_lt
          obtain ⟨m2, hm2⟩ : ∃ m2, b.toNat % 2 = m2 := ⟨_, rfl⟩
          have hbr : ((b.toNat : Int)).tmod 2 = (m2 : Int) := by rw [Int.tmod_eq_emod_of_nonneg (by omega)]; omega
          rw [hm2] at hsucc
          have hmm : m2 = 0 ∨ m2 = 1 := by omega
          have HSU := Lib.hid hsucc
          have hszl := hBl.size
          clear hsucc hm2
          rcases hmm with rfl | rfl
          all_goals
            go_wp2_with (at_builtin; refine wpList_append_own _ rfl _ _ 59 rfl w3.heap.size 4 i0 (.bool false) 1 1 Tryz.underlying59 hi hz0 hz1 hz2 rfl (by decide) _ _ _ rfl (hrl.alloc _) ⟨wr.heap.size, 0, none⟩ 1 1 [.bool _] rfl rfl (World.news_of_block (World.alloc_heap_new wr _)) (by simp [Value.oneCell']) ?_ ?_ ?_ ?_)
            · unfold maxLen; omega
            · omega
            · simp; omega
            intro v' w4 hown' hgrow _
            have hB4 : Below w3.heap.size w3 w4 := (hBl.alloc hBl.size _).grown hgrow (by simp; omega) (fun k ek => (hrl.lt k ek).1)
            have HO := Lib.hid hown'
            clear hown' hgrow hrl
            go_wp2
            go_roundg (k.size - (j2 + 1))
            case measure => omega
            case rel => exact ⟨j2 + 1, rfl, by omega, by go_num, by rw [HSU.out, List.map_append, List.map_take]; exact HO.out, hB4⟩
        · obtain rfl : j2 = k.size := by omega
          have hall : (kBits k).take k.size = kBits k := List.take_of_length_le (by rw [kBits_len]; exact Nat.le_refl _)
          rw [hall] at hrl
          obtain ⟨la, lc, rfl⟩ := own_slice hrl
          have hBr : BRow wr (.slice la k.size lc) (kBits k) := by
            unfold BRow
            rw [kBits_len]
            exact ownsRow_low hrl (Nat.zero_le _)
          have hbk : ∀ z, (Value.slice la k.size lc).ownBlock = some z → W1.heap.size ≤ z := fun z hz => Nat.le_trans HB3.out.size (hrl.lt z hz).1
          have hB1r := HB3.out.trans (hBl.mono HB3.out.size)
          have c4 := (hBl.cell (p := ⟨wo, 0, none⟩) (Nat.lt_of_lt_of_le hwl HB3.out.size)).trans c3
          have hwl4 := Nat.lt_of_lt_of_le hwl hB1r.size
          have HCR2 := Lib.hid (HCR.out wr hB1r _ _ hBr hbk)
          have HRL := Lib.hid hrl
          have HBL := Lib.hid hBl
          clear hall hrl hBr hbk hB1r hBl c3
          go_wp2_with fail
          refine HCR2.out.mono ?_
          rintro y w5 ⟨rfl, hK5, hC5⟩
          obtain ⟨fk, hfk⟩ : ∃ fk : Nat → Bool, (fun i => (kBits k).getD i false) = fk := ⟨_, rfl⟩
          rw [hfk] at hK5
          have hok5 : (x.t.crash fk).Ok := ok_crash HOK.out.1 fk
          have hsm5 : (x.t.crash fk).Small := ⟨HOK.out.2.last, HOK.out.2.now⟩
          obtain ⟨q5, c5, hwl5, hDk5⟩ := disk_o hK5
          obtain ⟨q5', c5', _, hWt5⟩ := waiting_o hK5 hok5 hsm5
          obtain rfl : q5' = q5 := by have := c5'.symm.trans c5; simpa [ptr] using this
          obtain ⟨q5'', c5'', _, hFl5⟩ := flights_o hK5 hok5 hsm5
          obtain rfl : q5'' = q5' := by have := c5''.symm.trans c5; simpa [ptr] using this
          have HDK5 := Lib.hid (hDk5 _ (Below.refl _ _))
          have HWT5 := Lib.hid hWt5
          have HFL5 := Lib.hid hFl5
          have HK5 := Lib.hid hK5
          have HC5 := Lib.hid (And.intro hC5 hfk)
          have HOK5 := Lib.hid (And.intro hok5 hsm5)
          clear hK5 hC5 hok5 hsm5 hDk5 hWt5 hFl5 c5' c5'' hfk
          go_wp2_with fail
          refine HDK5.out.mono ?_
          rintro y w6 ⟨v6, rfl, hrow6, hB6, _⟩
          obtain ⟨ea, ec, rfl⟩ := own_slice hrow6
          have c6 := (hB6.cell (p := ⟨wo, 0, none⟩) hwl5).trans c5
          have HR6 := Lib.hid hrow6
          have HB6 := Lib.hid hB6
          have hwl6 := Nat.lt_of_lt_of_le hwl5 hB6.size
          clear hrow6 hB6
          go_wp2_with fail
          refine (HWT5.out _ HB6.out).mono ?_
          rintro y w7 ⟨v7, rfl, hrow7, hB7⟩
          obtain ⟨fa, fc, rfl⟩ : ∃ fa fc, v7 = .slice fa 0 fc := own_slice hrow7
          have c7 := (hB7.cell (p := ⟨wo, 0, none⟩) hwl6).trans c6
          have HB7 := Lib.hid (HB6.out.trans (hB7.mono HB6.out.size))
          have HB67 := Lib.hid hB7
          clear hrow7 hB7
          go_wp2_with fail
          refine (HFL5.out _ HB7.out).mono ?_
          rintro y w8 ⟨v8, cs8, rfl, hcs8, hC8, hB8⟩
          have hcs0 : cs8 = [] := by
            have : cs8.map (·.1) = [] := hcs8
            simpa using this
          subst hcs0
          obtain ⟨ga, gc, rfl⟩ : ∃ ga gc, v8 = .slice ga 0 gc := own_slice hC8.row
          have HB8 := Lib.hid (HB7.out.trans (hB8.mono HB7.out.size))
          have HB68 := Lib.hid (HB67.out.trans (hB8.mono HB67.out.size))
          clear hcs8 hC8 hB8
          have hch : Chg (fun z => z < W1.heap.size) wr w8 := HC5.out.1.then (chgB HB8.out _)
          have hch2 : Chg (fun z => z < W1.heap.size) w3 w8 := (chgB HBL.out _).then hch
          have hch3 : Chg (fun z => z < W1.heap.size) w2 w8 := (chgB HB23.out _).then hch2
          have hwas : w8.ownsRow W1.heap.size 5 1 (.slice da 64 dc) 64 (x.t.disk.map fun b => Value.int .u8 b) := ownsRow_chg HR1.out hch3 fun z hz hlt => by have := own_ge HR1.out hz; omega
          have hbits : w8.ownsRow w3.heap.size 4 1 (.slice la k.size lc) k.size ((kBits k).map Value.bool) := ownsRow_chg HRL.out hch fun z hz hlt => by have := own_ge HRL.out hz; have := HB3.out.size; omega
          have hC8 : CmdsAt w8 w2.heap.size (.slice va nf vc) cs' := by
            refine ⟨?_, fun c hc => ?_, HC.out.apart⟩
            · exact ownsRow_chg HC.out.row hch2 fun z hz hlt => by have := own_ge HC.out.row hz; have := HB2.out.size; omega
            · exact ownsRow_chg (HC.out.rows c hc) hch2 fun z hz hlt => by have := own_ge (HC.out.rows c hc) hz; have := HB2.out.size; omega
          have hcv := conv_row hwas HOK.out.1.a.dlen (by omega)
          have hK8 := HK5.out.later HB8.out
          have HBITS := Lib.hid hbits
          have HC8 := Lib.hid hC8
          have HK8 := Lib.hid hK8
          have HWAS := Lib.hid hwas
          have hB18 : W1.heap.size ≤ w8.heap.size := Nat.le_trans HB2.out.size hch3.size
          clear hch hch2 hch3 hwas hbits hC8 hK8
          go_wp2_with fail
          go_loopg [17, 18, 19] nf (fun kk wv nv iv wx => ∃ (j3 nn : Nat) (E : List Int), kk = nf - j3 ∧ j3 ≤ nf ∧ wv = .string (strOfNums E) ∧ nv = .int .i64 nn ∧ iv = .int .i64 j3 ∧ Hid (E.length = 64 ∧ E = St.kept x.t.rs (wnT x.t.cs j3) fk 0 x.t.disk ∧ nn = (wnT x.t.cs j3).length) ∧ nn ≤ 1000000 * j3 ∧ Below w8.heap.size w8 wx)
          case atStart => exact ⟨0, 0, x.t.disk, by simp, by omega, rfl, rfl, rfl, Lib.hid ⟨HOK.out.1.a.dlen, rfl, rfl⟩, by omega, Below.refl _ _⟩
          case round =>
            obtain ⟨j3, nn, E, rfl, hj3, rfl, rfl, rfl, hE, hnn, hBx⟩ := hrel
            by_cases hl3 : j3 < nf
            · have hl3I : (j3 : Int) < (nf : Int) := by omega
              have hCx := HC8.out.later hBx
              obtain ⟨⟨c, cv⟩, hc⟩ : ∃ c, cs'[j3]? = some c := ⟨_, List.getElem?_eq_getElem (by rw [HCS.out.2.1]; exact hl3)⟩
              have hcx : x.t.cs[j3]? = some c := by rw [← HCS.out.1, List.getElem?_map, hc]; rfl
              have hcm : (c, cv) ∈ cs' := List.mem_of_getElem? hc
              have hcxm : c ∈ x.t.cs := List.mem_of_getElem? hcx
              have hrowc := hCx.rows _ hcm
              obtain ⟨ra, rc, rfl⟩ : ∃ ra rc, cv = .slice ra c.nums.length rc := own_slice hrowc
              obtain ⟨g, cap, e, _, hgl, hcell⟩ := cmd_cells hCx.row hc
              simp only [Value.slice.injEq] at e
              obtain ⟨rfl, hdrop, rfl⟩ := e
              clear hdrop
              obtain ⟨m, hm⟩ : ∃ m, c.nums.length = m := ⟨_, rfl⟩
              have hck := HOK.out.1.cmds c hcxm
              have hm0 : 1 ≤ m := by have := hck.count; have := hck.len; omega
              have hm6 : m ≤ 900000 := by
                have h8 := cmd_len HOK.out.1 hcxm
                have h9 := HOK.out.2.last
                omega
              have hsucc := wnT_succ hcx
              have HX := Lib.hid (And.intro hcx (And.intro hcxm (And.intro hm hsucc)))
              have HBX := Lib.hid hBx
              clear hcell hc hcm hcx hcxm hm hrowc hck hBx hCx hsucc
              obtain ⟨cw, hcw⟩ : ∃ cw, c.write = cw := ⟨_, rfl⟩
              have HCW := Lib.hid hcw
              clear hcw
              go_wp2_with fail
              go_loopg [17, 18, 20] m (fun kk wv nv iv wx => ∃ (k4 n4 : Nat) (E4 : List Int), kk = m - k4 ∧ k4 ≤ m ∧ wv = .string (strOfNums E4) ∧ nv = .int .i64 n4 ∧ iv = .int .i64 k4 ∧ n4 = nn + k4 ∧ (cw = false → k4 = 0) ∧ Hid (E4.length = 64 ∧ E4 = St.kept x.t.rs (wnT x.t.cs j3 ++ c.nums.take k4) fk 0 x.t.disk) ∧ Below w8.heap.size w8 wx)
              case atStart => exact ⟨0, nn, E, by simp, by omega, rfl, rfl, rfl, by simp, fun _ => rfl, Lib.hid (by simpa using ⟨hE.out.1, hE.out.2.1⟩), HBX.out⟩
              case round =>
                obtain ⟨k4, n4, E4, rfl, hk4, rfl, rfl, rfl, hn4, hcw0, hE4, hB4⟩ := hrel
                have hCy := HC8.out.later hB4
                obtain ⟨cv', hc'⟩ : ∃ cv', cs'[j3]? = some (c, cv') := by
                  have h0 := HX.out.1
                  rw [← HCS.out.1, List.getElem?_map] at h0
                  obtain ⟨⟨c', cv'⟩, e1, e2⟩ := Option.map_eq_some_iff.1 h0
                  exact ⟨cv', by rw [e1, ← e2]⟩
                have hrowc := hCy.rows _ (List.mem_of_getElem? hc')
                obtain ⟨ra, rc, rfl⟩ : ∃ ra rc, cv' = .slice ra c.nums.length rc := own_slice hrowc
                obtain ⟨g', cap, e, _, hgl', hcell⟩ := cmd_cells hCy.row hc'
                simp only [Value.slice.injEq, Option.some.injEq, Addr.mk.injEq] at e
                obtain ⟨⟨rfl, _⟩, hdrop, rfl⟩ := e
                clear hdrop
                have p0 : wr.cell? ⟨g, j3 * 4, none⟩ = some (.bool cw) := by rw [← HCW.out]; exact hcell 0 _ rfl
                have p3 : wr.cell? ⟨g, j3 * 4 + 3, none⟩ = some (.slice ra m rc) := by rw [← HX.out.2.2.1]; exact hcell 3 _ rfl
                simp only at hrowc
                rw [HX.out.2.2.1] at hrowc
                have hm0I : (0 : Int) < (m : Int) := by omega
                clear hCy hc' hcell
                cases hcw : cw with
                | false =>
                  rw [hcw] at p0
                  obtain rfl : k4 = 0 := hcw0 hcw
                  have hwn : wnT x.t.cs (j3 + 1) = wnT x.t.cs j3 := by rw [HX.out.2.2.2, HCW.out, hcw]; simp
                  have HWN := Lib.hid hwn
                  obtain rfl : n4 = nn := by omega
                  clear hwn hrowc hn4 hcw0
                  go_wp2_with fail
                  go_roundg (nf - (j3 + 1))
                  case measure => omega
                  case rel => exact ⟨j3 + 1, n4, E4, rfl, by omega, rfl, rfl, by go_num, Lib.hid ⟨hE4.out.1, by rw [HWN.out]; have := hE4.out.2; rwa [List.take_zero, List.append_nil] at this, by rw [HWN.out]; exact hE.out.2.2⟩, by omega, hB4⟩
                | true =>
                  rw [hcw] at p0
                  by_cases hkl : k4 < m
                  · have hklI : (k4 : Int) < (m : Int) := by omega
                    obtain ⟨num, hnum⟩ : ∃ num, c.nums[k4]? = some num := ⟨_, List.getElem?_eq_getElem (by rw [HX.out.2.2.1]; exact hkl)⟩
                    obtain ⟨o, hom, hon, _⟩ := (HOK.out.1.cmds c HX.out.2.1).ins num (List.mem_of_getElem? hnum)
                    have hinv := hAt.out.inv
                    have hnl := hinv.ok.a.rs.num o hom
                    have hlast := hinv.last
                    have hrs7 := hAt.out.rs
                    obtain ⟨nr, hnr⟩ : ∃ nr, x.rs.length = nr := ⟨_, rfl⟩
                    rw [hnr] at hlast hrs7
                    obtain ⟨i, hi1⟩ : ∃ i : Nat, num = (i : Int) + 1 := ⟨(num - 1).toNat, by omega⟩
                    have hil : i < nr := by omega
                    obtain ⟨⟨rnum, rwt, rpage, rdata, rhow, rread⟩, hr⟩ : ∃ r, x.rs[i]? = some r := ⟨_, List.getElem?_eq_getElem (by rw [hnr]; exact hil)⟩
                    have hrn := hinv.num i _ hr
                    obtain ⟨s1, s2, s3⟩ := hinv.same _ (List.mem_of_getElem? hr) o hom (by simp only at hrn ⊢; omega)
                    simp only at s1 s2 s3 hrn
                    have hpo := (hinv.ok.a.rs.ok o hom).page
                    obtain ⟨pg, hpg⟩ : ∃ pg : Nat, o.page = (pg : Int) := ⟨o.page.toNat, by omega⟩
                    have hpg16 : pg < 16 := by omega
                    rw [hpg] at s2
                    have hwr : o.write = true := by
                      obtain ⟨o', ho', h2, h3, _⟩ := (HOK.out.1.cmds c HX.out.2.1).ins num (List.mem_of_getElem? hnum)
                      have := rnum_inj hinv.ok.a.rs.nums ho' hom (h2.trans hon.symm)
                      subst this
                      rw [h3, HCW.out, hcw]
                    have hdata := s3 hwr
                    have htake : c.nums.take (k4 + 1) = c.nums.take k4 ++ [num] := by
                      obtain ⟨z1, z2⟩ := List.getElem?_eq_some_iff.1 hnum
                      rw [List.take_succ_eq_append_getElem z1, z2]
                    have hstep : ∀ E', (if fk n4 = true then dput E4 (pg : Int) o.data else E4) = E' → E' = St.kept x.t.rs (wnT x.t.cs j3 ++ c.nums.take (k4 + 1)) fk 0 x.t.disk := fun E' hE' => by
                      have hlen : (wnT x.t.cs j3 ++ c.nums.take k4).length = n4 := by
                        rw [List.length_append, List.length_take, HX.out.2.2.1, ← hE.out.2.2]
                        omega
                      rw [htake, ← List.append_assoc, kept_app, ← hE4.out.2, Nat.zero_add, hlen, ← hE']
                      simp only [St.kept]
                      rw [← hon, find_num hinv.ok.a.rs.nums hom]
                      show _ = if fk n4 = true then dput E4 o.page o.data else E4
                      rw [hpg]
                    obtain ⟨rg, rfl, _, _, hcn⟩ := row_at hrowc (j := k4) (x := .int .i64 num) (by rw [List.getElem?_map, hnum]; rfl) (by rw [List.length_map]; exact HX.out.2.2.1)
                    rw [hi1] at hcn
                    obtain ⟨ra8, rc8, d1, hwl8, hrws⟩ := (HK8.out.later hB4).rows
                    simp only at d1 hrws
                    rw [hnr] at d1
                    obtain ⟨g8, rfl, hg8, hkc, hkf⟩ := hrws i _ hr
                    have HST := Lib.hid hstep
                    have HDT := Lib.hid hdata
                    have hn4b : n4 ≤ 4900000 := by omega
                    have HN4 := Lib.hid hn4
                    clear hnum hom hon hinv hnl hlast hr hrn s1 s3 hpo hwr hstep htake hrowc hrws hdata hi1 hn4
                    subst s2
                    have hiI : (i : Int) < (nr : Int) := by omega
                    have hi0 : (0 : Int) ≤ (i : Int) := by omega
                    by_cases hbk : n4 < k.size
                    · have hbkI : (n4 : Int) < (k.size : Int) := by omega
                      have hn40 : (0 : Int) ≤ (n4 : Int) := by omega
                      have hbt := ownsRow_chg HBITS.out (chgB hB4 fun _ => False) fun _ _ x => x
                      obtain ⟨lg, rfl, _, _, hbc⟩ := row_at hbt (j := n4) (x := .bool ((kBits k).getD n4 false)) (by rw [List.getElem?_map, List.getElem?_eq_getElem (by rw [kBits_len]; exact hbk)]; simp [List.getD_eq_getElem?_getD, List.getElem?_eq_getElem (show n4 < (kBits k).length by rw [kBits_len]; exact hbk)]) (by rw [List.length_map, kBits_len])
                      have hfb : fk n4 = (kBits k).getD n4 false := (congrFun HC5.out.2 n4).symm
                      cases hbit : (kBits k).getD n4 false with
                      | false =>
                        rw [hbit] at hbc hfb
                        have HFB := Lib.hid hfb
                        clear hbt hfb hbit
                        go_wp2_with fail
                        go_roundg (m - (k4 + 1))
                        case measure => omega
                        case rel => exact ⟨k4 + 1, n4 + 1, E4, rfl, by omega, rfl, by go_num, by go_num, by have := HN4.out; omega, (fun hh => by rw [hcw] at hh; cases hh), Lib.hid ⟨hE4.out.1, HST.out _ (if_neg (by rw [HFB.out]; decide))⟩, hB4⟩
                      | true =>
                        rw [hbit] at hbc hfb
                        have HFB := Lib.hid hfb
                        clear hbt hfb hbit
                        have hw4 : IntKind.i64.wrap (4 * (pg : Int)) = 4 * (pg : Int) := by rw [IntKind.wrap_i64]; omega
                        have hw5 : IntKind.i64.wrap (4 * (pg : Int) + 4) = 4 * (pg : Int) + 4 := by rw [IntKind.wrap_i64]; omega
                        have hw6 : IntKind.i64.wrap ((i : Int) + 1 - 1) = (i : Int) := by rw [IntKind.wrap_i64]; omega
                        have hw7 : IntKind.i64.wrap (i : Int) = (i : Int) := by rw [IntKind.wrap_i64]; omega
                        have k0 : wr.cell? ⟨g8, i * 6, none⟩ = some (.int .i64 rnum) := hkc 0 _ rfl
                        have k1 : wr.cell? ⟨g8, i * 6 + 1, none⟩ = some (.bool rwt) := hkc 1 _ rfl
                        have k2 : wr.cell? ⟨g8, i * 6 + 2, none⟩ = some (.int .i64 (pg : Int)) := hkc 2 _ rfl
                        have k3 : wr.cell? ⟨g8, i * 6 + 3, none⟩ = some (.string rdata) := hkc 3 _ rfl
                        have k4' : wr.cell? ⟨g8, i * 6 + 4, none⟩ = some (.int .i64 rhow) := hkc 4 _ rfl
                        have k5 : wr.cell? ⟨g8, i * 6 + 5, none⟩ = some (.string rread) := hkc 5 _ rfl
                        have hgj := lt_of_cell p3
                        have hrgl := lt_of_cell hcn
                        obtain ⟨sE, hsE⟩ : ∃ sE, strOfNums E4 = sE := ⟨_, rfl⟩
                        have hsl : sE.size = 64 := by rw [← hsE, strOfNums_size]; exact hE4.out.1
                        have hput : sE.extract 0 (4 * pg) ++ rdata ++ sE.extract (4 * pg + 4) 64 = strOfNums (dput E4 (pg : Int) o.data) := by
                          rw [← hsE, HDT.out]
                          exact want_put hE4.out.1 hpg16 o.data
                        have b1 : (0 : Int) ≤ 4 * (pg : Int) := by omega
                        have b2 : 4 * (pg : Int) ≤ 64 := by omega
                        have b3 : (0 : Int) ≤ 4 * (pg : Int) + 4 := by omega
                        have b4 : 4 * (pg : Int) + 4 ≤ 64 := by omega
                        have tn1 : (4 * (pg : Int)).toNat = 4 * pg := by omega
                        have tn2 : (4 * (pg : Int) + 4).toNat = 4 * pg + 4 := by omega
                        have hrd4 : rdata.size = 4 := by rw [HDT.out]; unfold bytesOf; rw [strOfNums_size]; rfl
                        have hex1 : (sE.extract 0 (4 * pg)).size = 4 * pg := by
                          rw [← hsE, son_extract, strOfNums_size, List.drop_zero, List.length_take, hE4.out.1]
                          omega
                        have hex2 : (sE.extract (4 * pg + 4) 64).size = 60 - 4 * pg := by
                          rw [← hsE, son_extract, strOfNums_size, List.length_drop, List.length_take, hE4.out.1]
                          omega
                        have hsum1 : (sE.extract 0 (4 * pg) ++ rdata).size = 4 * pg + 4 := by rw [ByteArray.size_append, hex1, hrd4]
                        have hcc1 : ∀ W : World, (Op.stringOp .add (sE.extract 0 (4 * pg)) rdata).run Tryz.prog W = .ok (.string (sE.extract 0 (4 * pg) ++ rdata)) W := fun W => run_string_add_sum (P := Tryz.prog) (w := W) _ _ (by rw [hex1, hrd4]; omega)
                        have hcc2 : ∀ W : World, (Op.stringOp .add (sE.extract 0 (4 * pg) ++ rdata) (sE.extract (4 * pg + 4) 64)).run Tryz.prog W = .ok (.string (sE.extract 0 (4 * pg) ++ rdata ++ sE.extract (4 * pg + 4) 64)) W := fun W => run_string_add_sum (P := Tryz.prog) (w := W) _ _ (by rw [hsum1, hex2]; omega)
                        clear hrd4 hex1 hex2 hsum1
                        have HPUT := Lib.hid hput
                        have HKC := Lib.hid hkc
                        rw [hsE]
                        clear hkc hput hsE
                        go_wp2_with fail
                        go_region_held3 (fun w' => w'.cell? ⟨wo, 1, none⟩ = some (.slice (some ⟨g8, 0, none⟩) nr rc8) ∧ w'.cell? ⟨g, j3 * 4 + 3, none⟩ = some (.slice (some ⟨rg, 0, none⟩) m rc) ∧ w'.cell? ⟨rg, k4, none⟩ = some (.int .i64 ((i : Int) + 1)) ∧ w'.cell? ⟨g8, i * 6, none⟩ = some (.int .i64 rnum) ∧ w'.cell? ⟨g8, i * 6 + 1, none⟩ = some (.bool rwt) ∧ w'.cell? ⟨g8, i * 6 + 2, none⟩ = some (.int .i64 (pg : Int)) ∧ w'.cell? ⟨g8, i * 6 + 3, none⟩ = some (.string rdata) ∧ w'.cell? ⟨g8, i * 6 + 4, none⟩ = some (.int .i64 rhow) ∧ w'.cell? ⟨g8, i * 6 + 5, none⟩ = some (.string rread)) (go_keep) (fail)
                        all_goals
                          go_wp2_with fail
                          go_quiet (fail)
                          go_wp2_with fail
                          go_roundg (m - (k4 + 1))
                          case measure => omega
                          case rel =>
                            refine ⟨k4 + 1, n4 + 1, dput E4 (pg : Int) o.data, rfl, by omega, ?_, by go_num, by go_num, by have := HN4.out; omega, (fun hh => by rw [hcw] at hh; cases hh), Lib.hid ⟨by simp [dput, hE4.out.1], HST.out _ (if_pos HFB.out)⟩, ?_⟩
                            · rw [← HPUT.out]
                            · exact below_drewN (hB4.alloc hB4.size _) _
                    · have hbkI : ¬ (n4 : Int) < (k.size : Int) := by omega
                      have hfb : fk n4 = false := by
                        rw [← congrFun HC5.out.2 n4]
                        simp [List.getD_eq_getElem?_getD, List.getElem?_eq_none (show (kBits k).length ≤ n4 by rw [kBits_len]; omega)]
                      have HFB := Lib.hid hfb
                      clear hfb
                      go_wp2_with fail
                      go_roundg (m - (k4 + 1))
                      case measure => omega
                      case rel => exact ⟨k4 + 1, n4 + 1, E4, rfl, by omega, rfl, by go_num, by go_num, by have := HN4.out; omega, (fun hh => by rw [hcw] at hh; cases hh), Lib.hid ⟨hE4.out.1, HST.out _ (if_neg (by rw [HFB.out]; decide))⟩, hB4⟩
                  · obtain rfl : k4 = m := by omega
                    have hwn : wnT x.t.cs (j3 + 1) = wnT x.t.cs j3 ++ c.nums := by rw [HX.out.2.2.2, HCW.out, hcw]; simp
                    have HWN := Lib.hid hwn
                    clear hwn hrowc
                    go_wp2_with fail
                    go_roundg (nf - (j3 + 1))
                    case measure => omega
                    case rel =>
                      have htk : c.nums.take k4 = c.nums := List.take_of_length_le (by rw [HX.out.2.2.1]; exact Nat.le_refl _)
                      exact ⟨j3 + 1, n4, E4, rfl, by omega, rfl, rfl, by go_num, Lib.hid ⟨hE4.out.1, by rw [HWN.out]; have := hE4.out.2; rwa [htk] at this, by rw [HWN.out, List.length_append, ← hE.out.2.2, HX.out.2.2.1]; exact hn4⟩, by omega, hB4⟩
            · obtain rfl : j3 = nf := by omega
              have hEf : E = (x.t.crash fk).disk := by
                rw [hE.out.2.1, wnT_all (by rw [HCS.out.2.2]; exact Nat.le_refl _)]
                rfl
              have hEl := hE.out.1
              obtain ⟨W9, rfl⟩ : ∃ z, z = wr := ⟨_, rfl⟩
              have hK9 := HK8.out.later hBx
              have HEF := Lib.hid (And.intro hEf hEl)
              have HK9 := Lib.hid hK9
              have hnr9 := hAt.out.rs
              obtain ⟨nr, hnr⟩ : ∃ nr, x.rs.length = nr := ⟨_, rfl⟩
              rw [hnr] at hnr9
              have HNR := Lib.hid hnr
              have hB9 := HB68.out.trans (hBx.mono HB68.out.size)
              have HB59 := Lib.hid (HB8.out.trans (hBx.mono HB8.out.size))
              clear hEf hEl hK9 hnr hBx hE hnn hB18
              go_wp2_with fail
              go_loopg [22] nr (fun kk iv wx => ∃ (i : Nat), kk = nr - i ∧ i ≤ nr ∧ iv = .int .i64 i ∧ Hid (Below W9.heap.size W9 wx))
              case atStart => exact ⟨0, by simp, by omega, rfl, Lib.hid (Below.refl _ _)⟩
              case round =>
                obtain ⟨i, rfl, hi, rfl, hBi⟩ := hrel
                have hKi := HK9.out.later hBi.out
                obtain ⟨ra8, rc8, d1, hwl8, hrws⟩ := hKi.rows
                simp only at d1 hrws
                rw [HNR.out] at d1
                by_cases hin : i < nr
                · have hinI : (i : Int) < (nr : Int) := by omega
                  have hi0 : (0 : Int) ≤ (i : Int) := by omega
                  obtain ⟨r, hr⟩ : ∃ r, x.rs[i]? = some r := ⟨_, List.getElem?_eq_getElem (by rw [HNR.out]; exact hin)⟩
                  obtain ⟨g8, rfl, hg8, hkc, hkf⟩ := hrws i _ hr
                  have k0 : wr.cell? ⟨g8, i * 6, none⟩ = some (.int .i64 r.num) := hkc 0 _ rfl
                  obtain ⟨q9, d0, _, hPn⟩ := pollnone_o hKi HG.out r.num rfl
                  have HPN := Lib.hid hPn
                  obtain ⟨W0, rfl⟩ : ∃ z, z = wr := ⟨_, rfl⟩
                  have hwn0 : wo ≠ W0.heap.size := by omega
                  have hgn0 : g8 ≠ W0.heap.size := by omega
                  have hwn1 := hwn0.symm
                  have hgn1 := hgn0.symm
                  have hwn2 : wo ≠ W0.heap.size + 1 := by omega
                  have hgn2 : g8 ≠ W0.heap.size + 1 := by omega
                  have hwn3 := hwn2.symm
                  have hgn3 := hgn2.symm
                  have hwn4 : wo < W0.heap.size + 1 := by omega
                  have hgn4 : g8 < W0.heap.size + 1 := by omega
                  clear hKi hrws hr hkc hkf hPn
                  go_wp2_with fail
                  go_cut [24] from 202 to 218 (fun s24 wx => ∃ b24, s24 = ptr b24 ∧ wx.cell? ⟨b24, 0, none⟩ = some (.int .i64 5) ∧ Hid (Below W0.heap.size W0 wx))
                  case first =>
                    go_region_held3 (fun w' => w'.cell? ⟨wo, 0, none⟩ = some (ptr q9) ∧ w'.cell? ⟨wo, 1, none⟩ = some (.slice (some ⟨g8, 0, none⟩) nr rc8) ∧ w'.cell? ⟨g8, i * 6, none⟩ = some (.int .i64 r.num)) (go_keep)
                      (first
                        | (go_at_call 16; refine (HPN.out _ (by go_grown)).mono ?_; rintro y w2 ⟨rfl, hc3⟩
                           have hy0 : w2.cell? ⟨wo, 0, none⟩ = some (ptr q9) := (hc3.cell (p := ⟨wo, 0, none⟩) (by simp; omega)).trans (by go_keep)
                           have hy1 : w2.cell? ⟨wo, 1, none⟩ = some (.slice (some ⟨g8, 0, none⟩) nr rc8) := (hc3.cell (p := ⟨wo, 1, none⟩) (by simp; omega)).trans (by go_keep)
                           have hy2 : w2.cell? ⟨g8, i * 6, none⟩ = some (.int .i64 r.num) := (hc3.cell (p := ⟨g8, i * 6, none⟩) (by simp; omega)).trans (by go_keep)
                           have hz2 := hc3.size
                           try simp at hz2
                           have hm1 : wo < w2.heap.size := by omega
                           have hm2 : g8 < w2.heap.size := by omega
                           have hm3 : wo ≠ w2.heap.size := by omega
                           have hm4 : g8 ≠ w2.heap.size := by omega
                           have hm5 := hm3.symm
                           have hm6 := hm4.symm
                           have hm7 : wo ≠ w2.heap.size + 1 := by omega
                           have hm8 : g8 ≠ w2.heap.size + 1 := by omega
                           have hm9 := hm7.symm
                           have hm10 := hm8.symm
                           have hc4 := chgB hc3 fun _ => False
                           try (have hla : W0.heap.size < w2.heap.size := ?zval; case zval => omega)
                           try (have hlb : W0.heap.size + 1 < w2.heap.size := ?zval; case zval => omega)
                           try (have hna : W0.heap.size ≠ w2.heap.size := ?zval; case zval => omega)
                           try (have hnb : W0.heap.size + 1 ≠ w2.heap.size := ?zval; case zval => omega)
                           try (have hnc : w2.heap.size ≠ W0.heap.size := ?zval; case zval => omega)
                           try (have hnd : w2.heap.size ≠ W0.heap.size + 1 := ?zval; case zval => omega)
                           try (have zaA0 : w2.cell? ⟨W0.heap.size, 0, none⟩ = some (.slice none 0 0) := ?zval; case zval => (refine (hc4.cell (p := ⟨W0.heap.size, 0, none⟩) ?_ ?_).trans ?_ <;> first | (exact fun hh => hh) | (simp; done) | (go_simp; done) | (simp; omega) | omega))
                           try (have zaA1 : w2.cell? ⟨W0.heap.size, 1, none⟩ = some (.int .i64 0) := ?zval; case zval => (refine (hc4.cell (p := ⟨W0.heap.size, 1, none⟩) ?_ ?_).trans ?_ <;> first | (exact fun hh => hh) | (simp; done) | (go_simp; done) | (simp; omega) | omega))
                           try (have zaE0 : w2.cell? ⟨W0.heap.size, 0, none⟩ = some (.int .i64 0) := ?zval; case zval => (refine (hc4.cell (p := ⟨W0.heap.size, 0, none⟩) ?_ ?_).trans ?_ <;> first | (exact fun hh => hh) | (simp; done) | (go_simp; done) | (simp; omega) | omega))
                           try (have zaE1 : w2.cell? ⟨W0.heap.size, 1, none⟩ = some (.int .i64 0) := ?zval; case zval => (refine (hc4.cell (p := ⟨W0.heap.size, 1, none⟩) ?_ ?_).trans ?_ <;> first | (exact fun hh => hh) | (simp; done) | (go_simp; done) | (simp; omega) | omega))
                           try (have zaE2 : w2.cell? ⟨W0.heap.size, 2, none⟩ = some (.int .i64 0) := ?zval; case zval => (refine (hc4.cell (p := ⟨W0.heap.size, 2, none⟩) ?_ ?_).trans ?_ <;> first | (exact fun hh => hh) | (simp; done) | (go_simp; done) | (simp; omega) | omega))
                           try (have zaE3 : w2.cell? ⟨W0.heap.size, 3, none⟩ = some (.bool false) := ?zval; case zval => (refine (hc4.cell (p := ⟨W0.heap.size, 3, none⟩) ?_ ?_).trans ?_ <;> first | (exact fun hh => hh) | (simp; done) | (go_simp; done) | (simp; omega) | omega))
                           try (have zfa : ∀ i, w2.frozen? ⟨W0.heap.size, i, none⟩ = false := ?zval; case zval => (intro i; refine (hc4.frozen (p := ⟨W0.heap.size, i, none⟩) ?_ ?_).trans ?_ <;> first | (exact fun hh => hh) | (simp; done) | (go_simp; done) | (simp; omega) | omega))
                           try (have zbA0 : w2.cell? ⟨W0.heap.size + 1, 0, none⟩ = some (.slice none 0 0) := ?zval; case zval => (refine (hc4.cell (p := ⟨W0.heap.size + 1, 0, none⟩) ?_ ?_).trans ?_ <;> first | (exact fun hh => hh) | (simp; done) | (go_simp; done) | (simp; omega) | omega))
                           try (have zbA1 : w2.cell? ⟨W0.heap.size + 1, 1, none⟩ = some (.int .i64 0) := ?zval; case zval => (refine (hc4.cell (p := ⟨W0.heap.size + 1, 1, none⟩) ?_ ?_).trans ?_ <;> first | (exact fun hh => hh) | (simp; done) | (go_simp; done) | (simp; omega) | omega))
                           try (have zbE0 : w2.cell? ⟨W0.heap.size + 1, 0, none⟩ = some (.int .i64 0) := ?zval; case zval => (refine (hc4.cell (p := ⟨W0.heap.size + 1, 0, none⟩) ?_ ?_).trans ?_ <;> first | (exact fun hh => hh) | (simp; done) | (go_simp; done) | (simp; omega) | omega))
                           try (have zbE1 : w2.cell? ⟨W0.heap.size + 1, 1, none⟩ = some (.int .i64 0) := ?zval; case zval => (refine (hc4.cell (p := ⟨W0.heap.size + 1, 1, none⟩) ?_ ?_).trans ?_ <;> first | (exact fun hh => hh) | (simp; done) | (go_simp; done) | (simp; omega) | omega))
                           try (have zbE2 : w2.cell? ⟨W0.heap.size + 1, 2, none⟩ = some (.int .i64 0) := ?zval; case zval => (refine (hc4.cell (p := ⟨W0.heap.size + 1, 2, none⟩) ?_ ?_).trans ?_ <;> first | (exact fun hh => hh) | (simp; done) | (go_simp; done) | (simp; omega) | omega))
                           try (have zbE3 : w2.cell? ⟨W0.heap.size + 1, 3, none⟩ = some (.bool false) := ?zval; case zval => (refine (hc4.cell (p := ⟨W0.heap.size + 1, 3, none⟩) ?_ ?_).trans ?_ <;> first | (exact fun hh => hh) | (simp; done) | (go_simp; done) | (simp; omega) | omega))
                           try (have zfb : ∀ i, w2.frozen? ⟨W0.heap.size + 1, i, none⟩ = false := ?zval; case zval => (intro i; refine (hc4.frozen (p := ⟨W0.heap.size + 1, i, none⟩) ?_ ?_).trans ?_ <;> first | (exact fun hh => hh) | (simp; done) | (go_simp; done) | (simp; omega) | omega))
                           have HC3 := Lib.hid hc3
                           clear hc3 hc4))
                    all_goals
                      go_wp2_with fail
                      go_meet
                      case rel =>
                        refine ⟨_, rfl, ?_, ?_⟩
                        · first | (simp; done) | (go_simp; done)
                        · refine Lib.hid ?_
                          have hw2 : Below W0.heap.size W0 w2 := by
                            refine Below.trans ?_ (HC3.out.mono ?_)
                            · go_grown
                            · first | (simp; done) | (simp; omega)
                          have hw3 := hw2.size
                          repeat first | with_reducible exact hw2 | with_reducible refine Below.alloc ?_ ?_ _ | with_reducible refine Below.setCell ?_ ?_ _
                          all_goals first | exact hw3 | (simp; done) | (simp; omega) | omega
                  case rest =>
                    obtain ⟨b24, rfl, y0, hBw⟩ := hcut
                    go_wp2_with fail
                    go_roundg (nr - (i + 1))
                    case measure => omega
                    case rel => exact ⟨i + 1, rfl, by omega, by go_num, Lib.hid (hBi.out.trans (hBw.out.mono hBi.out.size))⟩
                · obtain rfl : i = nr := by omega
                  obtain ⟨q9, rv, F5, hKB5, hfoot5⟩ := HK5.out.ex
                  have hKB6 := hKB5.lt
                  obtain ⟨F, hF⟩ : ∃ F, (fun k => F5 k ∧ k < w5.heap.size) = F := ⟨_, rfl⟩
                  have hFw5 : ∀ k, F k → k < w5.heap.size ∧ w.heap.size ≤ k := by rw [← hF]; exact fun k hk => ⟨hk.2, hfoot5 k (.inl hk.1)⟩
                  have hF0 : ¬ F 0 := fun z => (KO.sides (w := wr) (q := q9) (x := ⟨x.rs, x.t.crash fk⟩) hfoot5 HG.out).1 (by rw [← hF] at z; exact z.1)
                  rw [hF] at hKB6
                  have hB5r := HB59.out.trans (hBi.out.mono HB59.out.size)
                  have hKB := hKB6.below hB5r
                  have d0 := hKB.c0
                  have HFW := Lib.hid hFw5
                  have HB5R := Lib.hid hB5r
                  clear hKB5 hKB6 hfoot5 hF hFw5 hB5r
                  have hq0 := hKB.que.lt
                  have HRD := Lib.hid (read_p hq0 HOK5.out.1 HOK5.out.2 (hKi.err HG.out) (fun z => hF0 z.1) (show (0 : Int) < 40 by decide) 3 (by omega))
                  have HKB := Lib.hid hKB
                  have HGR := Lib.hid (hKi.err HG.out)
                  clear hKi hrws hKB hq0
                  go_wp2_with fail
                  refine HRD.out.mono ?_
                  rintro y wa ⟨rfl, hqa, hCa⟩
                  have da := (hCa.cell (p := ⟨wo, 0, none⟩) hwl8 fun z => HKB.out.now z.1).trans d0
                  have hwla := Nat.lt_of_lt_of_le hwl8 hCa.size
                  obtain ⟨t2, hcmd, hcomp, r, hfind, hst, hwr, hdat⟩ := crash_read HOK.out.1 fk
                  have hok6 : ((x.t.crash fk).add false 3 ⟨0, 0, 0, 0⟩).Ok := ok_add HOK5.out.1 (show (0 : Int) < 40 by decide) false 3 (by omega) _ b0_ok
                  have hsm6 : ((x.t.crash fk).add false 3 ⟨0, 0, 0, 0⟩).Small := ⟨by have := hAt.out.last; show x.t.last + 1 < 900000; omega, HOK5.out.2.now⟩
                  obtain ⟨Wb, hWb⟩ : ∃ Wb, wa.alloc (.cells #[.int .i64 0, .int .i64 (-1), .int .i64 0, .bool true] 39) = Wb := ⟨_, rfl⟩
                  have hBb : Below wa.heap.size wa Wb := by rw [← hWb]; exact (Below.refl _ _).alloc (Nat.le_refl _) _
                  have hEb : Wb.heap[wa.heap.size]? = some (.cells #[.int .i64 0, .int .i64 (-1), .int .i64 0, .bool true] 39 (0, 0)) := by rw [← hWb]; exact World.alloc_heap_new _ _
                  have hqb := hqa.lt.below hBb
                  have db := (hBb.cell (p := ⟨wo, 0, none⟩) hwla).trans da
                  have HST := Lib.hid (step_some_c hqb hok6 hsm6 _ hcmd)
                  have hwlb := Nat.lt_of_lt_of_le hwla hBb.size
                  have HWb := Lib.hid hWb
                  have HEB := Lib.hid hEb
                  have HCA := Lib.hid hCa
                  have HBB := Lib.hid hBb
                  have HCOMP := Lib.hid (And.intro hcomp (And.intro hfind (And.intro hst (And.intro hwr hdat))))
                  have HOK6 := Lib.hid (And.intro hok6 (And.intro hsm6 hcmd))
                  clear hWb hBb hEb hqb hqa hCa hcmd hcomp hfind hst hwr hdat hok6 hsm6
                  go_wp2_with fail
                  rw [HWb.out]
                  go_wp2_with fail
                  refine HST.out.mono ?_
                  rintro y wc ⟨v9, F9, rfl, hqc, hF9, _, hCc, hr9⟩
                  obtain ⟨va9, vc9, rfl⟩ : ∃ va9 vc9, v9 = .slice va9 1 vc9 := own_slice hr9
                  have hnF : ¬ (((F wo ∧ wo < wr.heap.size) ∨ wr.heap.size < wo) ∧ wo < wa.heap.size) := fun z => z.1.elim (fun z => HKB.out.now z.1) fun z => by omega
                  have hszb : wa.heap.size < Wb.heap.size := lt_of_heap HEB.out
                  have hEc := (hCc.block wa.heap.size hszb fun z => absurd z.2 (Nat.lt_irrefl _)).trans HEB.out
                  have dc := (hCc.cell (p := ⟨wo, 0, none⟩) hwlb hnF).trans db
                  have hwlc := Nat.lt_of_lt_of_le hwlb hCc.size
                  have hF9a : ¬ F9 wa.heap.size := fun z => (hF9 _ z).elim (fun z => absurd z.2 (Nat.lt_irrefl _)) fun z => by omega
                  have hF9w : ¬ F9 wo := fun z => (hF9 _ z).elim hnF fun z => by omega
                  have hF9r : ∀ k, ((w5.heap.size ≤ k ∧ k < wr.heap.size) ∨ k = wo) ∨ k < w.heap.size → ¬ F9 k := fun k z1 z => by
                    have z3 := HCA.out.size
                    have z4 := HBB.out.size
                    have z5 := HB5R.out.size
                    have z6 := HK5.out.below.size
                    rcases hF9 _ z with ⟨y | y, y2⟩ | y
                    · have z7 := HFW.out k y.1
                      rcases z1 with (z1 | z1) | z1
                      · omega
                      · exact HKB.out.now (z1 ▸ y.1)
                      · omega
                    · omega
                    · omega
                  have hF9s : Chg (fun k => ¬ (((w5.heap.size ≤ k ∧ k < wr.heap.size) ∨ k = wo) ∨ k < w.heap.size)) wr wc := by
                    refine ((HCA.out.mono fun k _ hk z => ?_).then (chgB HBB.out _)).then (hCc.mono fun k _ hk z => ?_)
                    · have z7 := HFW.out k hk.1
                      rcases z with (z1 | z1) | z1
                      · omega
                      · exact HKB.out.now (z1 ▸ hk.1)
                      · omega
                    · have z5 := HB5R.out.size
                      have z6 := HK5.out.below.size
                      rcases hk with ⟨y | y, y2⟩
                      · have z7 := HFW.out k y.1
                        rcases z with (z1 | z1) | z1
                        · omega
                        · exact HKB.out.now (z1 ▸ y.1)
                        · omega
                      · omega
                  have HF9R := Lib.hid hF9r
                  have HF9S := Lib.hid hF9s
                  have hF90 : ¬ F9 0 := fun z => (hF9 _ z).elim (fun z => z.1.elim (fun z => hF0 z.1) fun z => by omega) fun z => by omega
                  obtain ⟨Wd, hWd⟩ : ∃ Wd, wc.alloc (.cells #[.bool false, .int .i64 3, .int .i64 1, .slice va9 1 vc9] 48) = Wd := ⟨_, rfl⟩
                  have hBd : Below wc.heap.size wc Wd := by rw [← hWd]; exact (Below.refl _ _).alloc (Nat.le_refl _) _
                  have hCd : Wd.heap[wc.heap.size]? = some (.cells #[.bool false, .int .i64 3, .int .i64 1, .slice va9 1 vc9] 48 (0, 0)) := by rw [← hWd]; exact World.alloc_heap_new _ _
                  have HQC := Lib.hid (And.intro hqc (And.intro hF9 hCc))
                  have HEC := Lib.hid hEc
                  have HWd := Lib.hid hWd
                  have HBD := Lib.hid hBd
                  have HCD := Lib.hid hCd
                  have HF9 := Lib.hid (And.intro hF9a (And.intro hF9w hF90))
                  have hed := (hBd.block _ (lt_of_heap hEc)).trans hEc
                  have dd := (hBd.cell (p := ⟨wo, 0, none⟩) hwlc).trans dc
                  have hgd : ErrVar Wd := ((((HGR.out.chg HCA.out fun z => hF0 z.1).chg (chgB HBB.out fun _ => False) fun z => z).chg hCc fun z => z.1.elim (fun z => hF0 z.1) fun z => by omega).chg (chgB hBd fun _ => False) fun z => z)
                  have hwld := Nat.lt_of_lt_of_le hwlc hBd.size
                  have HCP := Lib.hid (complete_p (hqc.lt.below hBd) (ok_sent HOK6.out.1 HOK6.out.2.2) ⟨HOK6.out.2.1.last, HOK6.out.2.1.now⟩ hgd (fun z => hF90 z.1) 0 false t2 HCOMP.out.1)
                  have HED := Lib.hid hed
                  have HGD := Lib.hid hgd
                  clear hqc hF9 hCc hr9 hEc hWd hBd hCd hF9a hF9w hF90 hed hgd hF9r hF9s
                  go_wp2_with fail
                  rw [HWd.out]
                  go_wp2_with fail
                  refine HCP.out.mono ?_
                  rintro y we ⟨rfl, hqe, hCe⟩
                  have hee := (hCe.block wa.heap.size (lt_of_heap HED.out) fun z => HF9.out.1 z.1).trans HED.out
                  have hce := (hCe.block wc.heap.size (lt_of_heap HCD.out) fun z => absurd z.2 (Nat.lt_irrefl _)).trans HCD.out
                  have de := (hCe.cell (p := ⟨wo, 0, none⟩) hwld fun z => HF9.out.2.1 z.1).trans dd
                  have hwle := Nat.lt_of_lt_of_le hwld hCe.size
                  obtain ⟨Wf, hWf⟩ : ∃ Wf, we.alloc (.cells #[.int .i64 0, .int .i64 (-1), .int .i64 0, .bool true] 39) = Wf := ⟨_, rfl⟩
                  have hBf : Below we.heap.size we Wf := by rw [← hWf]; exact (Below.refl _ _).alloc (Nat.le_refl _) _
                  have hFf : Wf.heap[we.heap.size]? = some (.cells #[.int .i64 0, .int .i64 (-1), .int .i64 0, .bool true] 39 (0, 0)) := by rw [← hWf]; exact World.alloc_heap_new _ _
                  have hgf : ErrVar Wf := (HGD.out.chg hCe fun z => HF9.out.2.2 z.1).chg (chgB hBf fun _ => False) fun z => z
                  have hqf := hqe.lt.below hBf
                  have hok2 : t2.Ok := ok_complete (ok_sent HOK6.out.1 HOK6.out.2.2) HCOMP.out.1
                  have hsm2 : t2.Small := by
                    obtain ⟨z1, z2, _⟩ := complete_same HCOMP.out.1
                    exact ⟨by rw [z1]; exact HOK6.out.2.1.last, by rw [z2]; exact HOK6.out.2.1.now⟩
                  have HPR := Lib.hid (poll_read_p hqf hok2 hsm2 hgf (fun z => HF9.out.2.2 z.1.1) (x.t.last + 1) r HCOMP.out.2.1 HCOMP.out.2.2.1 HCOMP.out.2.2.2.1)
                  have df := (hBf.cell (p := ⟨wo, 0, none⟩) hwle).trans de
                  have heF := (hBf.block _ (lt_of_heap hee)).trans hee
                  have hcF := (hBf.block _ (lt_of_heap hce)).trans hce
                  have hwlf := Nat.lt_of_lt_of_le hwle hBf.size
                  have hSf : Chg (fun k => ¬ (((w5.heap.size ≤ k ∧ k < wr.heap.size) ∨ k = wo) ∨ k < w.heap.size)) wr Wf := ((HF9S.out.then (chgB HBD.out _)).then (hCe.mono fun k _ hk z => HF9R.out k z hk.1)).then (chgB hBf _)
                  have HWF := Lib.hid hWf
                  have HBF := Lib.hid hBf
                  have HFF := Lib.hid hFf
                  have HEE := Lib.hid heF
                  have HCC := Lib.hid hcF
                  have HSF := Lib.hid hSf
                  clear hqe hCe hee hce hWf hBf hFf hgf hqf hok2 hsm2 heF hcF hSf
                  go_wp2_with fail
                  rw [HWF.out]
                  go_wp2_with fail
                  refine HPR.out.mono ?_
                  rintro y wg ⟨v10, F10, rfl, _, _, _, hCg, hr10⟩
                  obtain ⟨va10, vc10, rfl⟩ : ∃ va10 vc10, v10 = .slice va10 4 vc10 := own_slice hr10
                  have heg := (hCg.block wa.heap.size (lt_of_heap HEE.out) fun z => HF9.out.1 z.1.1).trans HEE.out
                  have hcg := (hCg.block wc.heap.size (lt_of_heap HCC.out) fun z => absurd z.1.2 (Nat.lt_irrefl _)).trans HCC.out
                  have hfg := (hCg.block we.heap.size (lt_of_heap HFF.out) fun z => absurd z.2 (Nat.lt_irrefl _)).trans HFF.out
                  have hSg : Chg (fun k => ¬ (((w5.heap.size ≤ k ∧ k < wr.heap.size) ∨ k = wo) ∨ k < w.heap.size)) wr wg := HSF.out.then (hCg.mono fun k _ hk z => HF9R.out k z hk.1.1)
                  have hrow6 := ownsRow_chg (ownsRow_chg HR6.out (chgB (hB9.trans (hBi.out.mono hB9.size)) fun _ => False) fun _ _ z => z) hSg fun k hk z => z (.inl (.inl ⟨own_ge HR6.out hk, by
                    obtain ⟨cur, hcur⟩ := own_heap HR6.out hk
                    have := lt_of_heap hcur
                    have := (hB9.trans (hBi.out.mono hB9.size)).size
                    omega⟩))
                  have d1g := (hSg.cell (p := ⟨wo, 1, none⟩) hwl8 fun z => z (.inl (.inr rfl))).trans d1
                  have ye0 : wg.cell? ⟨wa.heap.size, 0, none⟩ = some (.int .i64 0) := cell_of heg rfl
                  have ye1 : wg.cell? ⟨wa.heap.size, 1, none⟩ = some (.int .i64 (-1)) := cell_of heg rfl
                  have ye2 : wg.cell? ⟨wa.heap.size, 2, none⟩ = some (.int .i64 0) := cell_of heg rfl
                  have ye3 : wg.cell? ⟨wa.heap.size, 3, none⟩ = some (.bool true) := cell_of heg rfl
                  have hel := lt_of_heap heg
                  have hcl := lt_of_heap hcg
                  have hfl := lt_of_heap hfg
                  have hen : wa.heap.size ≠ wg.heap.size := by omega
                  have hen1 : wa.heap.size ≠ wg.heap.size + 1 := by omega
                  have hen2 := hen.symm
                  have hen3 := hen1.symm
                  have hwlg := Nat.lt_of_lt_of_le hwlf hCg.size
                  have dg := (hCg.cell (p := ⟨wo, 0, none⟩) hwlf fun z => HF9.out.2.1 z.1.1).trans df
                  have HCG := Lib.hid hcg
                  have HFG := Lib.hid hfg
                  have HEG := Lib.hid heg
                  have HROW := Lib.hid hrow6
                  have HR10 := Lib.hid hr10
                  have HSG := Lib.hid hSg
                  clear hcg hfg heg hrow6 hr10 hSg hCg
                  go_wp2_with fail
                  refine (fine_yes _).mono ?_
                  rintro y wh ⟨rfl, hbh⟩
                  obtain ⟨hBh, haH, hgH⟩ := two_new hbh
                  have hcH := (hBh.block _ (lt_of_heap HCG.out)).trans HCG.out
                  have hfH := (hBh.block _ (lt_of_heap HFG.out)).trans HFG.out
                  have d1h := (hBh.cell (p := ⟨wo, 1, none⟩) hwlg).trans d1g
                  have hwlh := Nat.lt_of_lt_of_le hwlg hBh.size
                  have yf0 : wh.cell? ⟨we.heap.size, 0, none⟩ = some (.int .i64 0) := cell_of hfH rfl
                  have yf1 : wh.cell? ⟨we.heap.size, 1, none⟩ = some (.int .i64 (-1)) := cell_of hfH rfl
                  have yf2 : wh.cell? ⟨we.heap.size, 2, none⟩ = some (.int .i64 0) := cell_of hfH rfl
                  have yf3 : wh.cell? ⟨we.heap.size, 3, none⟩ = some (.bool true) := cell_of hfH rfl
                  have HAH := Lib.hid haH
                  have HGH := Lib.hid hgH
                  have HCH := Lib.hid hcH
                  have HBH := Lib.hid hBh
                  clear hbh haH hgH hcH hfH hBh ye0 ye1 ye2 ye3 dg
                  go_wp2_with fail
                  refine (fine_yes wh).mono ?_
                  rintro y wi ⟨rfl, hbi⟩
                  have hgI := (hbi.block _ (lt_of_heap HGH.out)).trans HGH.out
                  have haI := (hbi.block _ (lt_of_heap HAH.out)).trans HAH.out
                  have hcI := (hbi.block _ (lt_of_heap HCH.out)).trans HCH.out
                  have d1i := (hbi.cell (p := ⟨wo, 1, none⟩) hwlh).trans d1h
                  have hwli := Nat.lt_of_lt_of_le hwlh hbi.size
                  have yg0 : wi.cell? ⟨wg.heap.size + 1, 0, none⟩ = some (.int .i64 0) := cell_of hgI rfl
                  have yg1 : wi.cell? ⟨wg.heap.size + 1, 1, none⟩ = some (.int .i64 (-1)) := cell_of hgI rfl
                  have yg2 : wi.cell? ⟨wg.heap.size + 1, 2, none⟩ = some (.int .i64 0) := cell_of hgI rfl
                  have yg3 : wi.cell? ⟨wg.heap.size + 1, 3, none⟩ = some (.bool true) := cell_of hgI rfl
                  have HBI := Lib.hid (HBH.out.trans (hbi.mono HBH.out.size))
                  have HAI := Lib.hid haI
                  have HCI := Lib.hid hcI
                  clear hbi hgI haI hcI yf0 yf1 yf2 yf3 d1h
                  go_wp2_with fail
                  refine (fine_yes wi).mono ?_
                  rintro y wj ⟨rfl, hbj⟩
                  have hBj := HBI.out.trans (hbj.mono HBI.out.size)
                  have haJ := (hbj.block _ (lt_of_heap HAI.out)).trans HAI.out
                  have hcJ := (hbj.block _ (lt_of_heap HCI.out)).trans HCI.out
                  have d1j := (hbj.cell (p := ⟨wo, 1, none⟩) hwli).trans d1i
                  have ya0 : wj.cell? ⟨wg.heap.size, 0, none⟩ = some (.slice va10 4 vc10) := cell_of haJ rfl
                  have yc1 : wj.cell? ⟨wc.heap.size, 1, none⟩ = some (.int .i64 3) := cell_of hcJ rfl
                  have hcv1 := fun n => conv_row (ownsRow_chg HROW.out (chgB (below_drewN hBj n) fun _ => False) fun _ _ z => z) (by rw [← HEF.out.1]; exact HEF.out.2) (by omega)
                  simp only [← HEF.out.1] at hcv1
                  have hcv2 := fun n => conv_row (l := [r.data.a, r.data.b, r.data.c, r.data.d]) (ownsRow_chg HR10.out (chgB (below_drewN hBj n) fun _ => False) fun _ _ z => z) rfl (by omega)
                  have hwg : strOfNums [r.data.a, r.data.b, r.data.c, r.data.d] = (strOfNums E).extract 12 16 := by
                    rw [← want_get HEF.out.2, HEF.out.1, ← HCOMP.out.2.2.2.2]
                    rfl
                  simp only [hwg] at hcv2
                  have hlast : (x.t.crash fk).last = (i : Int) := by
                    rw [← HNR.out]
                    exact hAt.out.inv.last
                  have hwr1 : IntKind.i64.wrap ((i : Int) + 1) = (i : Int) + 1 := by rw [IntKind.wrap_i64]; omega
                  obtain ⟨sE, hsE⟩ : ∃ sE, strOfNums E = sE := ⟨_, rfl⟩
                  have hsl : sE.size = 64 := by rw [← hsE, strOfNums_size]; exact HEF.out.2
                  simp only [hsE] at hcv1 hcv2
                  rw [hsE]
                  rw [hlast]
                  have HBJ := Lib.hid ((HK5.out.below.trans (HB5R.out.mono HK5.out.below.size)).trans ((HSG.out.then (chgB hBj _)).to_below (fun k hk => Nat.le_of_not_lt fun z => hk (.inr z)) (Nat.le_trans HK5.out.below.size HB5R.out.size)))
                  clear hbj hBj haJ hcJ yg0 yg1 yg2 yg3 d1i hwg hlast hsE
                  go_wp2_with fail
                  go_quiet (fail)
                  go_wp2_with fail
                  go_ret
                  exact ⟨rfl, below_drewN HBJ.out _⟩
end Go.Proofs.YticobikhndlejaaGreatDoor
