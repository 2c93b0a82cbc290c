/- Table.Ready by contract: the table's ready requests by pages and numbers. -/
import Derived.Test.YticobikhndlejaaGreatDoorGxB
import Derived.Deep.LoopGhost
import Derived.Deep.AppendLies
import Derived.Deep.RegionHeld3
namespace Go.Proofs.YticobikhndlejaaGreatDoor
open Go.RowKit Go.Shelf Go.Lib

theorem filter_take_no {l : List Ent} (p : Ent → Bool) {j : Nat} (hj : j < l.length) (h : p (l[j]'hj) = false) : (l.take (j + 1)).filter p = (l.take j).filter p := by
  rw [List.take_succ_eq_append_getElem hj, List.filter_append]; simp [h]
theorem filter_take_yes {l : List Ent} (p : Ent → Bool) {j : Nat} (hj : j < l.length) (h : p (l[j]'hj) = true) : (l.take (j + 1)).filter p = (l.take j).filter p ++ [l[j]'hj] := by
  rw [List.take_succ_eq_append_getElem hj, List.filter_append]; simp [h]

set_option maxRecDepth 100000 in
set_option maxHeartbeats 1000000 in
theorem ready_some (tb mb clock : Nat) (last held now : Int) (es : List Ent) (w : World) (h : TabB w tb mb clock last held es) (hes : byPage es ≠ []) :
    Calls Tryz.prog 38 #[ptr tb, .int .i64 now] w fun e w' =>
      ∃ v : Value, e = .returned v ∧ w'.ownsRow w.heap.size 97 1 v (readyE now es).length ((readyE now es).map fun e => ptr e.p) ∧ Below w.heap.size w w' := by
  have HS := Lib.hid (sorted_any tb mb clock last held es w h)
  obtain ⟨i0, hi, hz0, hz1, hz2⟩ := info_parts Tryz.infoP
  have HT := Lib.hid h
  clear h
  go_enter Tryz.func38, Tryz.ntmps38
  go_wp2_with fail
  go_step3
  go_wp2_with fail
  refine HS.out.mono ?_
  rintro e w1 ⟨v, rfl, hrow, hb⟩
  rcases hrow.2 with ⟨_, hz⟩ | ⟨g, cap, cur, rfl, hbase, hgb, r1, r2, r3, r4⟩
  · exact absurd (List.eq_nil_of_length_eq_zero hz) hes
  clear hrow
  have hT1 := HT.out.below hb
  have HT1 := Lib.hid hT1
  clear hT1
  go_wp2_with fail
  go_step3
  obtain ⟨L, hL⟩ : ∃ L, L = byPage es := ⟨_, rfl⟩
  rw [← hL] at r1 r4 ⊢
  have HL := Lib.hid hL
  clear hL
  have hcell : ∀ (wr : World) (j : Nat) (hj : j < L.length), Below w1.heap.size w1 wr → wr.cell? ⟨g, j, none⟩ = some (ptr (L[j]'hj).p) := fun wr j hj hbw => by
    rw [hbw.cell (p := ⟨g, j, none⟩) (lt_of_heap hgb)]
    simp only [World.cell?, hgb]
    have h1 : (cur.toList.take (L.length * 1))[j]? = (L.map fun e => ptr e.p)[j]? := by rw [r4]
    rw [Nat.mul_one, List.getElem?_take_of_lt hj, List.getElem?_map, List.getElem?_eq_getElem hj] at h1
    simpa using h1
  have HC := Lib.hid hcell
  have hlen : L.length ≤ 1000000 := by rw [HL.out, (byPage_perm HT.out.ok).length_eq]; exact HT.out.len
  clear hcell r1 r2 r3 r4
  go_wp2_with fail
  go_loopg [6, 15] L.length (fun k out i wr => ∃ j : Nat, k = L.length - j ∧ j ≤ L.length ∧ i = .int .i64 j ∧ wr.ownsRow w1.heap.size 97 1 out ((L.take j).filter (isReady now es)).length (((L.take j).filter (isReady now es)).map fun e => ptr e.p) ∧ Below w1.heap.size w1 wr)
  case atStart => exact ⟨0, by simp, Nat.zero_le _, rfl, World.ownsRow_nil _ _ _ _, Below.refl _ _⟩
  case round =>
    obtain ⟨j, rfl, hj, rfl, hrow, hB⟩ := hrel
    by_cases hlt : j < L.length
    · have hcell := HC.out wr j hlt hB
      have hreq := HT1.out.reqs
      obtain ⟨e, he⟩ : ∃ e, L[j] = e := ⟨_, rfl⟩
      rw [he] at hcell
      have hmem : e ∈ es := by rw [← he]; exact (byPage_perm HT.out.ok).subset (HL.out ▸ List.getElem_mem hlt)
      have hR : ReqB wr e.p e.r := (hB.block e.p (lt_of_heap (HT1.out.reqs e hmem))).trans (HT1.out.reqs e hmem)
      have hat := hR.at
      have c7 := hat.c7
      have c9 := hat.c9
      have HE := Lib.hid he
      have HR := Lib.hid hR
      clear hat hR he hreq
      by_cases hs : e.r.state = 0
      · have hs' : (e.r.state != 0) = false := by simpa using hs
        by_cases ha : now < e.r.after
        · have hno : isReady now es e = false := by have : ¬ e.r.after ≤ now := by omega
                                                    simp [isReady, this]
          have HN := Lib.hid (filter_take_no (isReady now es) hlt (by rw [HE.out]; exact hno))
          clear hs hno
          go_wp2
          go_roundg (L.length - (j + 1))
          case measure => omega
          case rel => exact ⟨j + 1, rfl, by omega, by go_num, by rw [HN.out]; exact hrow, hB⟩
        · have HS0 := Lib.hid hs
          clear hs
          go_wp2_with fail
          obtain ⟨wo, hwo⟩ : ∃ wo : World, wo = wr := ⟨_, rfl⟩
          rw [← hwo] at hrow hB HR c7 c9 hcell ⊢
          have HW := Lib.hid hwo
          clear hwo
          go_loopg [34] L.length (fun k i w2 => ∃ m q : Nat, k = L.length - m ∧ m ≤ L.length ∧ i = .int .i64 m ∧ (∀ o ∈ L.take m, o.r.blocks e.r = false) ∧ w2 = wo.drewN q)
          case atStart => exact ⟨0, 0, by simp, Nat.zero_le _, rfl, by simp, rfl⟩
          case round =>
            obtain ⟨m, q, rfl, hm, rfl, hno, rfl⟩ := hrel
            by_cases hmt : m < L.length
            · have hBq : Below w1.heap.size w1 (wo.drewN q) := below_drewN hB q
              have hcm := HC.out (wo.drewN q) m hmt hBq
              obtain ⟨o, ho⟩ : ∃ o, L[m] = o := ⟨_, rfl⟩
              rw [ho] at hcm
              have hom : o ∈ es := by rw [← ho]; exact (byPage_perm HT.out.ok).subset (HL.out ▸ List.getElem_mem hmt)
              have hRo : ReqB (wo.drewN q) o.p o.r := (hBq.block o.p (lt_of_heap (HT1.out.reqs o hom))).trans (HT1.out.reqs o hom)
              have hbl := blocks_any o.p e.p o.r e.r (wo.drewN q) hRo HR.out
              have HO := Lib.hid ho
              have HNO := Lib.hid hno
              clear ho hno hRo
              cases hb1 : o.r.blocks e.r with
              | true =>
                rw [hb1] at hbl
                have HBL := Lib.hid hbl
                have hanr : isReady now es e = false := by
                  have : (es.any fun o => o.r.blocks e.r) = true := List.any_eq_true.2 ⟨o, hom, hb1⟩
                  simp [isReady, this]
                have HN := Lib.hid (filter_take_no (isReady now es) hlt (by rw [HE.out]; exact hanr))
                clear hbl hb1 hanr
                go_wp2_with (go_at_call 69; refine HBL.out.mono ?_; rintro e w' ⟨rfl, n, rfl⟩)
                go_roundg (L.length - (j + 1))
                case measure => omega
                case rel => exact ⟨j + 1, rfl, by omega, by go_num, by rw [HN.out]; exact hrow, below_drewN hB _⟩
              | false =>
                rw [hb1] at hbl
                have HBL := Lib.hid hbl
                have HB1 := Lib.hid hb1
                clear hbl hb1
                go_wp2_with (go_at_call 69; refine HBL.out.mono ?_; rintro e w' ⟨rfl, n, rfl⟩)
                go_roundg (L.length - (m + 1))
                case measure => omega
                case rel =>
                  refine ⟨m + 1, q + n, rfl, by omega, by go_num, ?_, rfl⟩
                  intro x hx
                  rw [List.take_succ_eq_append_getElem hmt, HO.out] at hx
                  rcases List.mem_append.1 hx with hx | hx
                  · exact HNO.out x hx
                  · rw [List.mem_singleton.1 hx]; exact HB1.out
            · obtain rfl : m = L.length := by omega
              rw [List.take_length] at hno
              have hyes : isReady now es e = true := by
                have h1 : (es.any fun o => o.r.blocks e.r) = false := by
                  rw [List.any_eq_false]
                  intro o ho
                  have := hno o (HL.out ▸ (byPage_perm HT.out.ok).symm.subset ho)
                  simp [this]
                have h2 : e.r.after ≤ now := by omega
                have h3 := HS0.out
                simp [isReady, h1, h2, h3]
              have HN := Lib.hid (filter_take_yes (isReady now es) hlt (by rw [HE.out]; exact hyes))
              have hfl : ((L.take j).filter (isReady now es)).length ≤ j := Nat.le_trans (List.length_filter_le _ _) (List.length_take_le _ _)
              have hrowq : (wo.drewN q).ownsRow w1.heap.size 97 1 u6 ((L.take j).filter (isReady now es)).length (((L.take j).filter (isReady now es)).map fun e => ptr e.p) := hrow
              have hBq : Below w1.heap.size w1 (wo.drewN q) := below_drewN hB q
              obtain ⟨R, hR⟩ : ∃ R, (L.take j).filter (isReady now es) = R := ⟨_, rfl⟩
              rw [hR] at hrowq hfl
              have HRR := Lib.hid hR
              have hsz := hBq.size
              clear hno hyes hR hrow hm
              go_wp2_with (at_builtin; refine wpList_append_own _ rfl _ _ 90 rfl w1.heap.size 97 i0 (.pointer none) 1 8 Tryz.underlying90 hi hz0 hz1 hz2 rfl (by decide) _ _ _ rfl (hrowq.alloc _) ⟨(wo.drewN q).heap.size, 0, none⟩ 1 1 [ptr e.p] rfl rfl (cell_one_new _ _ _) (by simp [Value.oneCell']) ?_ ?_ ?_ ?_)
              · unfold maxLen; omega
              · omega
              · rw [World.size_alloc]; omega
              intro v' w2 hown' hgrow _
              have hB2 : Below w1.heap.size w1 w2 := (hBq.alloc hsz _).grown hgrow (by rw [World.size_alloc]; omega) (fun k ek => (hrowq.lt k ek).1)
              have hown2 : w2.ownsRow w1.heap.size 97 1 v' ((L.take (j + 1)).filter (isReady now es)).length (((L.take (j + 1)).filter (isReady now es)).map fun e => ptr e.p) := by
                rw [HN.out, HE.out, HRR.out]; simpa using hown'
              have HO2 := Lib.hid hown2
              clear hown' hgrow hown2 hrowq
              go_wp2
              go_roundg (L.length - (j + 1))
              case measure => omega
              case rel => exact ⟨j + 1, rfl, by omega, by go_num, HO2.out, hB2⟩
      · have hs' : (e.r.state != 0) = true := by simpa using hs
        have hno : isReady now es e = false := by simp [isReady, hs]
        have HN := Lib.hid (filter_take_no (isReady now es) hlt (by rw [HE.out]; exact hno))
        clear hs hno
        go_wp2
        go_roundg (L.length - (j + 1))
        case measure => omega
        case rel => exact ⟨j + 1, rfl, by omega, by go_num, by rw [HN.out]; exact hrow, hB⟩
    · have hjl : j = L.length := by omega
      have HR := Lib.hid hrow
      have HJ := Lib.hid hjl
      clear hrow hjl
      go_wp2
      rw [Exit.noGoto_ret]
      go_ret
      refine ⟨_, rfl, ?_, hb.trans (hB.mono hb.size)⟩
      have h1 := HR.out
      rw [HJ.out, List.take_length, HL.out] at h1
      exact ⟨h1.1, h1.2.imp id fun ⟨g, cap, cur, h1, h2, h3⟩ => ⟨g, cap, cur, h1, Nat.le_trans hb.size h2, h3⟩⟩

set_option maxRecDepth 100000 in
set_option maxHeartbeats 1000000 in
theorem ready_any (tb mb clock : Nat) (last held now : Int) (es : List Ent) (w : World) (h : TabB w tb mb clock last held es) :
    Calls Tryz.prog 38 #[ptr tb, .int .i64 now] w fun e w' =>
      ∃ v : Value, e = .returned v ∧ w'.ownsRow w.heap.size 97 1 v (readyE now es).length ((readyE now es).map fun e => ptr e.p) ∧ Below w.heap.size w w' := by
  by_cases hes : byPage es = []
  · have HS := Lib.hid (sorted_any tb mb clock last held es w h)
    have hre : readyE now es = [] := by simp [readyE, hes]
    rw [hre]
    have HE := Lib.hid hes
    clear h hes hre
    go_enter Tryz.func38, Tryz.ntmps38
    go_wp2_with fail
    go_step3
    go_wp2_with fail
    refine HS.out.mono ?_
    rintro e w1 ⟨v, rfl, hrow, hb⟩
    rw [HE.out] at hrow
    rcases hrow.2 with ⟨rfl, hz⟩ | ⟨g, cap, cur, rfl, hbase, hgb, r1, r2, r3, r4⟩
    · clear hrow
      go_wp2_with fail
      go_step3
      go_wp2_with fail
      refine wp_loop_rounds 1 ?_
      rw [rounds_succ]
      go_wp2
      rw [Exit.noGoto_ret]
      go_ret
      exact ⟨_, rfl, World.ownsRow_nil _ _ _ _, hb⟩
    · clear hrow
      simp only [List.length_nil] at *
      go_wp2_with fail
      go_step3
      go_wp2_with fail
      refine wp_loop_rounds 1 ?_
      rw [rounds_succ]
      go_wp2
      rw [Exit.noGoto_ret]
      go_ret
      exact ⟨_, rfl, World.ownsRow_nil _ _ _ _, hb⟩
  · exact ready_some tb mb clock last held now es w h hes
end Go.Proofs.YticobikhndlejaaGreatDoor

/- package sched: pages.begin, pages.kind by contracts. -/
namespace Go.Proofs.YticobikhndlejaaGreatDoor
open Go.RowKit Go.Shelf Go.Lib

theorem wrapAt_lt {head i : Nat} (h : head ≤ 16) (hi : i < 16) : wrapAt head i < 16 := by unfold wrapAt; split <;> omega
def beginI (o : Option Nat) : Int := match o with | some p => (p : Int) | none => -1
theorem beginE_some {ne : Nat → Bool} {head k : Nat} (hk : k < 16) (h1 : ∀ j, j < k → ne (wrapAt head j) = false) (h2 : ne (wrapAt head k) = true) : beginE ne head = some (wrapAt head k) := by
  unfold beginE
  rw [List.find?_map, Option.map_eq_some_iff]
  refine ⟨k, ?_, rfl⟩
  rw [List.find?_eq_some_iff_append]
  refine ⟨h2, List.range k, (List.range' (k + 1) (16 - (k + 1))), ?_, fun a ha => by simpa using h1 a (List.mem_range.1 ha)⟩
  rw [List.range_eq_range', List.range_eq_range', show (k :: List.range' (k + 1) (16 - (k + 1))) = List.range' k (16 - k) from by rw [show 16 - k = (16 - (k + 1)) + 1 from by omega]; rfl]
  rw [show List.range' k (16 - k) = List.range' (0 + 1 * k) (16 - k) from by simp, List.range'_append]
  congr 1; omega
theorem beginE_none {ne : Nat → Bool} {head : Nat} (h1 : ∀ j, j < 16 → ne (wrapAt head j) = false) : beginE ne head = none := by
  unfold beginE
  rw [List.find?_eq_none]
  intro x hx
  obtain ⟨j, hj, rfl⟩ := List.mem_map.1 hx
  simpa using h1 j (List.mem_range.1 hj)

set_option maxRecDepth 100000 in
set_option maxHeartbeats 1000000 in
theorem begin_any (pb head : Nat) (n : Nat → Nat) (w : World) (hh : head ≤ 16) (hn : ∀ k, n k ≤ 1000000) (hc : ∀ k, k < 16 → ∃ a c, w.cell? ⟨pb, k, none⟩ = some (.slice a (n k) c)) :
    Calls Tryz.prog 66 #[ptr pb, .int .i64 head] w fun e w' => e = .returned (.int .i64 (beginI (beginE (fun k => decide (0 < n k)) head))) ∧ w = w' := by
  have HC := Lib.hid hc
  have HN := Lib.hid hn
  clear hc hn
  go_enter Tryz.func66, Tryz.ntmps66
  go_wp2_with fail
  go_loop [7] (fun i => ∃ k : Nat, k ≤ 16 ∧ i = .int .i64 k ∧ Hid (∀ j, j < k → decide (0 < n (wrapAt head j)) = false)) (fun i => (16 - intOf i).toNat)
  case atStart => exact ⟨0, by omega, rfl, fun j hj => absurd hj (by omega)⟩
  case round =>
    obtain ⟨k, hk, rfl, HJ⟩ := hrel
    by_cases hlt : k < 16
    · have hwl := wrapAt_lt hh hlt
      obtain ⟨a, c, hcell⟩ := HC.out _ hwl
      have hnb := HN.out (wrapAt head k)
      obtain ⟨m, hm⟩ : ∃ m, n (wrapAt head k) = m := ⟨_, rfl⟩
      rw [hm] at hcell hnb
      by_cases hge : 16 ≤ head + k
      · have hw : wrapAt head k = head + k - 16 := by unfold wrapAt; rw [if_pos hge]
        obtain ⟨q, hq⟩ : ∃ q, head + k = q + 16 := ⟨head + k - 16, by omega⟩
        have hq2 : wrapAt head k = q := by omega
        rw [hq2] at hcell
        have hq3 : (head : Int) + k - 16 = q := by omega
        by_cases h0 : 0 < m
        · have HB := Lib.hid (beginE_some (ne := fun k => decide (0 < n k)) hlt HJ.out (by simp [hm, h0]))
          have HW := Lib.hid hq2
          have hq5 : q < 16 := by omega
          clear hw hm hq hq2
          go_wp2
          go_ret
          exact ⟨by rw [HB.out, HW.out]; rfl, rfl⟩
        · have h0' : m = 0 := by omega
          subst h0'
          have HJ' : Hid (∀ j, j < k + 1 → decide (0 < n (wrapAt head j)) = false) := fun j hj => by
            by_cases hjk : j = k
            · subst hjk; simp [hm]
            · exact HJ.out j (by omega)
          have hq5 : q < 16 := by omega
          clear hw hm hq hq2
          go_wp2
          go_round
          case rel => exact ⟨k + 1, by omega, by go_num, HJ'⟩
          case measure => simp [intOf]; omega
      · have hw : wrapAt head k = head + k := by unfold wrapAt; rw [if_neg hge]
        rw [hw] at hcell
        by_cases h0 : 0 < m
        · have HB := Lib.hid (beginE_some (ne := fun k => decide (0 < n k)) hlt HJ.out (by simp [hm, h0]))
          have HW := Lib.hid hw
          clear hw hm
          go_wp2
          go_ret
          exact ⟨by rw [HB.out, HW.out]; rfl, rfl⟩
        · have h0' : m = 0 := by omega
          subst h0'
          have HJ' : Hid (∀ j, j < k + 1 → decide (0 < n (wrapAt head j)) = false) := fun j hj => by
            by_cases hjk : j = k
            · subst hjk; simp [hm]
            · exact HJ.out j (by omega)
          clear hw hm
          go_wp2
          go_round
          case rel => exact ⟨k + 1, by omega, by go_num, HJ'⟩
          case measure => simp [intOf]; omega
    · have hk16 : k = 16 := by omega
      subst hk16
      have HB := Lib.hid (beginE_none (ne := fun k => decide (0 < n k)) HJ.out)
      go_wp2
      go_ret
      exact ⟨by rw [HB.out]; rfl, rfl⟩

theorem row_cell {w : World} {g : Nat} {cur : Array Value} {t : TypeId} {L : List Ent} (hgb : w.heap[g]? = some (.cells cur t (0, 0))) (r4 : cur.toList.take (L.length * 1) = L.map fun e => ptr e.p) {B : Nat} {wr : World} (hb : Below B w wr) (hg : g < B) (j : Nat) (hj : j < L.length) :
    wr.cell? ⟨g, j, none⟩ = some (ptr (L[j]'hj).p) := by
  rw [hb.cell (p := ⟨g, j, none⟩) hg]
  simp only [World.cell?, hgb]
  have h1 : (cur.toList.take (L.length * 1))[j]? = (L.map fun e => ptr e.p)[j]? := by rw [r4]
  rw [Nat.mul_one, List.getElem?_take_of_lt hj, List.getElem?_map, List.getElem?_eq_getElem hj] at h1
  simpa using h1

set_option maxRecDepth 100000 in
set_option maxHeartbeats 1000000 in
theorem kind_any (pb page base : Nat) (write : Bool) (v : Value) (L : List Ent) (w : World) (hp : page < 16) (hc : w.cell? ⟨pb, page, none⟩ = some v) (hrow : w.ownsRow base 97 1 v L.length (L.map fun e => ptr e.p)) (hlen : L.length ≤ 1000000) (hr : ∀ e ∈ L, ReqB w e.p e.r) :
    Calls Tryz.prog 67 #[ptr pb, .int .i64 page, .bool write] w fun e w' =>
      ∃ v' : Value, e = .returned v' ∧ w'.ownsRow w.heap.size 97 1 v' (L.filter (isKind write)).length ((L.filter (isKind write)).map fun e => ptr e.p) ∧ Below w.heap.size w w' := by
  obtain ⟨i0, hi, hz0, hz1, hz2⟩ := info_parts Tryz.infoP
  have hp1 : (0 : Int) ≤ (page : Int) := by omega
  have hp2 : (page : Int) < 16 := by omega
  have HR := Lib.hid hr
  clear hr
  rcases hrow.2 with ⟨rfl, hz⟩ | ⟨g, cap, cur, rfl, hbase, hgb, r1, r2, r3, r4⟩
  · have hL : L = [] := List.eq_nil_of_length_eq_zero hz
    subst hL
    clear hrow
    go_enter Tryz.func67, Tryz.ntmps67
    go_wp2
    refine wp_loop_rounds 1 ?_
    rw [rounds_succ]
    go_wp2
    go_ret
    exact ⟨_, rfl, World.ownsRow_nil _ _ _ _, Below.refl _ _⟩
  · have HCe := Lib.hid (fun wr (hb : Below w.heap.size w wr) j hj => row_cell hgb r4 hb (lt_of_heap hgb) j hj)
    clear hrow r4 r1 r2 r3
    go_enter Tryz.func67, Tryz.ntmps67
    go_wp2_with fail
    go_loopg [7, 16] L.length (fun k out i wr => ∃ j : Nat, k = L.length - j ∧ j ≤ L.length ∧ i = .int .i64 j ∧ wr.ownsRow w.heap.size 97 1 out ((L.take j).filter (isKind write)).length (((L.take j).filter (isKind write)).map fun e => ptr e.p) ∧ Below w.heap.size w wr)
    case atStart => exact ⟨0, by simp, Nat.zero_le _, rfl, World.ownsRow_nil _ _ _ _, Below.refl _ _⟩
    case round =>
      obtain ⟨j, rfl, hj, rfl, hrow, hB⟩ := hrel
      by_cases hlt : j < L.length
      · have hcell := HCe.out wr hB j hlt
        obtain ⟨e, he⟩ : ∃ e, L[j] = e := ⟨_, rfl⟩
        rw [he] at hcell
        have hmem : e ∈ L := by rw [← he]; exact List.getElem_mem hlt
        have hR : ReqB wr e.p e.r := (hB.block e.p (lt_of_heap (HR.out e hmem))).trans (HR.out e hmem)
        have c1 := hR.at.c1
        have c10 := hR.at.c10
        have HE := Lib.hid he
        clear hR he
        cases hk : isKind write e with
        | false =>
          have HN := Lib.hid (filter_take_no (isKind write) hlt (by rw [HE.out]; exact hk))
          by_cases hw : e.r.write = write
          · have hal : e.r.alone = true := by simpa [isKind, hw] using hk
            rw [hal] at c10
            rw [hw] at c1
            have hww : (write == write) = true := by simp
            clear hk hal hw
            go_wp2
            go_roundg (L.length - (j + 1))
            case measure => omega
            case rel => exact ⟨j + 1, rfl, by omega, by go_num, by rw [HN.out]; exact hrow, hB⟩
          · have hww : (e.r.write == write) = false := by simpa using hw
            clear hk hw
            go_wp2
            go_roundg (L.length - (j + 1))
            case measure => omega
            case rel => exact ⟨j + 1, rfl, by omega, by go_num, by rw [HN.out]; exact hrow, hB⟩
        | true =>
          have HN := Lib.hid (filter_take_yes (isKind write) hlt (by rw [HE.out]; exact hk))
          simp only [isKind, Bool.and_eq_true, beq_iff_eq, Bool.not_eq_true'] at hk
          obtain ⟨hw, hal⟩ := hk
          rw [hal] at c10
          rw [hw] at c1
          have hww : (write == write) = true := by simp
          have hfl : ((L.take j).filter (isKind write)).length ≤ j := Nat.le_trans (List.length_filter_le _ _) (List.length_take_le _ _)
          obtain ⟨R, hRR⟩ : ∃ R, (L.take j).filter (isKind write) = R := ⟨_, rfl⟩
          rw [hRR] at hrow hfl
          have HRR := Lib.hid hRR
          have hsz := hB.size
          clear hw hal hRR
          go_wp2_with (at_builtin; refine wpList_append_own _ rfl _ _ 90 rfl w.heap.size 97 i0 (.pointer none) 1 8 Tryz.underlying90 hi hz0 hz1 hz2 rfl (by decide) _ _ _ rfl (hrow.alloc _) ⟨wr.heap.size, 0, none⟩ 1 1 [ptr e.p] rfl rfl (cell_one_new _ _ _) (by simp [Value.oneCell']) ?_ ?_ ?_ ?_)
          · unfold maxLen; omega
          · omega
          · rw [World.size_alloc]; omega
          intro v' w2 hown' hgrow _
          have hB2 : Below w.heap.size w w2 := (hB.alloc hsz _).grown hgrow (by rw [World.size_alloc]; omega) (fun k ek => (hrow.lt k ek).1)
          have hown2 : w2.ownsRow w.heap.size 97 1 v' ((L.take (j + 1)).filter (isKind write)).length (((L.take (j + 1)).filter (isKind write)).map fun e => ptr e.p) := by
            rw [HN.out, HE.out, HRR.out]; simpa using hown'
          have HO2 := Lib.hid hown2
          clear hown' hgrow hown2 hrow
          go_wp2
          go_roundg (L.length - (j + 1))
          case measure => omega
          case rel => exact ⟨j + 1, rfl, by omega, by go_num, HO2.out, hB2⟩
      · have hjl : j = L.length := by omega
        have HRw := Lib.hid hrow
        have HJ := Lib.hid hjl
        clear hrow hjl
        go_wp2
        go_ret
        refine ⟨_, rfl, ?_, hB⟩
        have h1 := HRw.out
        rw [HJ.out, List.take_length] at h1
        exact h1
end Go.Proofs.YticobikhndlejaaGreatDoor
