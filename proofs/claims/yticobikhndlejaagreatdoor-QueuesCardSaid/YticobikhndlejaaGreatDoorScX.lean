/- The document's queue: first, page, group by contract. -/
import Derived.Test.YticobikhndlejaaGreatDoorScK
import Derived.Test.YticobikhndlejaaGreatDoorScW
namespace Go.Proofs.YticobikhndlejaaGreatDoor
open Go.RowKit Go.Shelf Go.Lib

set_option maxRecDepth 100000 in
set_option maxHeartbeats 4000000 in
/-- The ready request with the lowest number of a page. -/
theorem first_r (w : World) {q : Nat} {t : St} {l : List RR} {told : List Int} {fs : List (Cmd × Value)} {rv tv fv dv : Value} (h : RB w q t l told fs rv tv fv dv) (hl : l.map (·.r) = t.rs) (hs : t.rs.Pairwise (·.num < ·.num)) (hlen : l.length ≤ 1000000) (p : Nat) :
    Calls Tryz.prog 125 #[ptr q, .int .i64 p] w fun y w' => ((∃ (k : Nat) (r : Req), y = .returned (.int .i64 k) ∧ t.rs[k]? = some r ∧ ∃ m, t.rs.filter (readyP t.now t.rs p) = r :: m) ∨ (y = .returned (.int .i64 (-1)) ∧ t.rs.filter (readyP t.now t.rs p) = [])) ∧ Below w.heap.size w w' := by
  obtain ⟨ra, rc, rfl⟩ := own_slice h.reqs
  obtain ⟨m, hm⟩ : ∃ m, l.length = m := ⟨_, rfl⟩
  rw [hm] at h hlen
  have HR := Lib.hid h
  obtain ⟨P, hP⟩ : ∃ P, readyP t.now t.rs p = P := ⟨_, rfl⟩
  rw [hP]
  have HPP := Lib.hid hP
  clear h hP
  go_enter Tryz.func125, Tryz.ntmps125
  go_wp2_with fail
  go_loopg [5] m (fun kk i wx => ∃ j, kk = m - j ∧ j ≤ m ∧ i = .int .i64 j ∧ Hid ((t.rs.take j).filter P = []) ∧ Below w.heap.size w wx)
  case atStart => exact ⟨0, by simp, by omega, rfl, Lib.hid (by simp), Below.refl _ _⟩
  case round =>
    obtain ⟨j, rfl, hj, rfl, hno, hB⟩ := hrel
    have hR := HR.out.below hB
    have d1 := hR.c1
    by_cases hlt : j < m
    · have hltI : (j : Int) < (m : Int) := by omega
      have hj0 : (0 : Int) ≤ (j : Int) := by omega
      obtain ⟨y, hy⟩ : ∃ y, l[j]? = some y := ⟨_, List.getElem?_eq_getElem (by omega)⟩
      have hyr : t.rs[j]? = some y.r := by rw [← hl, List.getElem?_map, hy]; rfl
      have HC := Lib.hid (ready_r wr hR hl hs (by omega) hy)
      obtain ⟨br, hbr⟩ : ∃ br, isReadyR t.now t.rs y.r = br := ⟨_, rfl⟩
      have hPy : P y.r = (br && (y.r.page == (p : Int))) := by rw [← HPP.out]; unfold readyP; rw [hbr]
      have HBR := Lib.hid hbr
      have HYR := Lib.hid hyr
      clear hbr hyr
      go_wp2_with fail
      refine HC.out.mono ?_
      rintro z w2 ⟨rfl, hB2⟩
      rw [HBR.out]
      have hBw := hB.trans (hB2.mono hB.size)
      have hR2 := HR.out.below hBw
      have d2 := hR2.c1
      obtain ⟨g, cap, e, _, _, hcell⟩ := hR2.req hy
      simp only [Value.slice.injEq] at e
      obtain ⟨rfl, hdrop, rfl⟩ := e
      clear hdrop
      have r2 : w2.cell? ⟨g, j * 10 + 2, none⟩ = some (.int .i64 y.r.page) := hcell 2 _ rfl
      obtain ⟨yp, hyp⟩ : ∃ z, y.r.page = z := ⟨_, rfl⟩
      rw [hyp] at r2 hPy
      have HPY := Lib.hid hPy
      clear hR hR2 hcell hy hyp hPy hB2
      cases br with
      | false =>
        go_wp2_with fail
        go_roundg (m - (j + 1))
        case measure => omega
        case rel => exact ⟨j + 1, rfl, by omega, by go_num, Lib.hid (by rw [take_filter_no HYR.out (by rw [HPY.out]; rfl)]; exact hno.out), hBw⟩
      | true =>
        by_cases hpe : yp = (p : Int)
        · subst hpe
          go_wp2_with fail
          go_ret
          exact ⟨.inl ⟨j, y.r, rfl, HYR.out, filter_first hno.out HYR.out (by rw [HPY.out]; simp)⟩, hBw⟩
        · go_wp2_with fail
          go_roundg (m - (j + 1))
          case measure => omega
          case rel => exact ⟨j + 1, rfl, by omega, by go_num, Lib.hid (by rw [take_filter_no HYR.out (by rw [HPY.out]; simp [hpe])]; exact hno.out), hBw⟩
    · obtain rfl : j = m := by omega
      have hall : t.rs.take j = t.rs := List.take_of_length_le (by rw [← hl, List.length_map]; omega)
      have hn := hno.out
      rw [hall] at hn
      clear hR hno hall
      go_wp2_with fail
      go_ret
      exact ⟨.inr ⟨rfl, hn⟩, hB⟩
set_option maxRecDepth 100000 in
set_option maxHeartbeats 4000000 in
/-- The page where the next command begins. -/
theorem page_r (w : World) {q : Nat} {t : St} {l : List RR} {told : List Int} {fs : List (Cmd × Value)} {rv tv fv dv : Value} (h : RB w q t l told fs rv tv fv dv) (hl : l.map (·.r) = t.rs) (hs : t.rs.Pairwise (·.num < ·.num)) (hlen : l.length ≤ 1000000) (hh : t.head ≤ 16) :
    Calls Tryz.prog 124 #[ptr q] w fun y w' => ((∃ (p : Nat), y = .returned (.int .i64 p) ∧ p < 16 ∧ beginE (neR t) t.head = some p) ∨ (y = .returned (.int .i64 (-1)) ∧ beginE (neR t) t.head = none)) ∧ Below w.heap.size w w' := by
  have HR := Lib.hid h
  obtain ⟨hd, hhd⟩ : ∃ hd, t.head = hd := ⟨_, rfl⟩
  have c5 := h.c5
  rw [hhd] at hh c5 ⊢
  have hHD := Lib.hid hhd
  clear h hhd
  go_enter Tryz.func124, Tryz.ntmps124
  go_wp2_with fail
  go_loopg [3] 32 (fun kk i wx => ∃ j, kk = 32 - j ∧ j ≤ 32 ∧ i = .int .i64 j ∧ Hid (∀ j', j' < j → neR t (wrapAt hd j') = false) ∧ Below w.heap.size w wx)
  case atStart => exact ⟨0, by simp, by omega, rfl, Lib.hid (fun _ h => by omega), Below.refl _ _⟩
  case round =>
    obtain ⟨j, rfl, hj, rfl, hno, hB⟩ := hrel
    have hR := HR.out.below hB
    have d5 := hR.c5
    rw [hHD.out] at d5
    by_cases hlt : j < 32
    · have hltI : (j : Int) < 32 := by omega
      obtain ⟨p, hp⟩ : ∃ p, wrapAt hd j = p := ⟨_, rfl⟩
      have hp2 : p = if 16 ≤ hd + j then hd + j - 16 else hd + j := by rw [← hp]; rfl
      by_cases hov : 16 ≤ hd + j
      · rw [if_pos hov] at hp2
        have hw1 : IntKind.i64.wrap ((hd : Int) + j) = (hd : Int) + j := by rw [IntKind.wrap_i64]; omega
        have hw2 : IntKind.i64.wrap (16 - (hd : Int)) = 16 - (hd : Int) := by rw [IntKind.wrap_i64]; omega
        have hw3 : IntKind.i64.wrap ((j : Int) - (16 - (hd : Int))) = (p : Int) := by rw [IntKind.wrap_i64]; omega
        have hovI : (hd : Int) + j ≥ 16 := by omega
        by_cases hp16 : p < 16
        · have hpI : ¬ (p : Int) ≥ 16 := by omega
          have HC := Lib.hid (first_r wr hR hl hs hlen p)
          have HP := Lib.hid hp
          clear hp2 hR hp
          go_wp2_with fail
          refine HC.out.mono ?_
          rintro z w2 ⟨⟨k, r, rfl, hk, mm, hf⟩ | ⟨rfl, hf⟩, hB2⟩
          · have hB2' := hB.trans (hB2.mono hB.size)
            have hne : neR t p = true := by unfold neR; rw [pageR_ready t.now t.rs hp16, hf]; simp
            have HF := Lib.hid (begin_found hno.out (by rw [HP.out]; exact hp16) (by rw [HP.out]; exact hne))
            clear hk hf hB2 hne
            have hk0 : (k : Int) ≥ 0 := by omega
            go_wp2_with fail
            go_ret
            exact ⟨.inl ⟨p, rfl, hp16, by rw [HF.out, HP.out]⟩, hB2'⟩
          · have hB2' := hB.trans (hB2.mono hB.size)
            have hne : neR t p = false := by unfold neR; rw [pageR_ready t.now t.rs hp16, hf]; simp
            have HNE := Lib.hid hne
            clear hf hB2 hne
            go_wp2_with fail
            go_roundg (32 - (j + 1))
            case measure => omega
            case rel => exact ⟨j + 1, rfl, by omega, by go_num, Lib.hid (fun j' hj' => by
              rcases Nat.lt_or_ge j' j with h | h
              · exact hno.out j' h
              · rw [show j' = j from by omega, HP.out]; exact HNE.out), hB2'⟩
        · have hpI : (p : Int) ≥ 16 := by omega
          have HF := Lib.hid (begin_over hh hno.out (.inl (by rw [hp]; omega)))
          clear hp2 hR hp
          go_wp2_with fail
          go_ret
          exact ⟨.inr ⟨rfl, HF.out⟩, hB⟩
      · rw [if_neg hov] at hp2
        have hw1 : IntKind.i64.wrap ((hd : Int) + j) = (p : Int) := by rw [IntKind.wrap_i64]; omega
        have hp16 : p < 16 := by omega
        have hpI : ¬ (p : Int) ≥ 16 := by omega
        have HC := Lib.hid (first_r wr hR hl hs hlen p)
        have HP := Lib.hid hp
        clear hp2 hR hp
        go_wp2_with fail
        refine HC.out.mono ?_
        rintro z w2 ⟨⟨k, r, rfl, hk, mm, hf⟩ | ⟨rfl, hf⟩, hB2⟩
        · have hB2' := hB.trans (hB2.mono hB.size)
          have hne : neR t p = true := by unfold neR; rw [pageR_ready t.now t.rs hp16, hf]; simp
          have HF := Lib.hid (begin_found hno.out (by rw [HP.out]; exact hp16) (by rw [HP.out]; exact hne))
          clear hk hf hB2 hne
          have hk0 : (k : Int) ≥ 0 := by omega
          go_wp2_with fail
          go_ret
          exact ⟨.inl ⟨p, rfl, hp16, by rw [HF.out, HP.out]⟩, hB2'⟩
        · have hB2' := hB.trans (hB2.mono hB.size)
          have hne : neR t p = false := by unfold neR; rw [pageR_ready t.now t.rs hp16, hf]; simp
          have HNE := Lib.hid hne
          clear hf hB2 hne
          go_wp2_with fail
          go_roundg (32 - (j + 1))
          case measure => omega
          case rel => exact ⟨j + 1, rfl, by omega, by go_num, Lib.hid (fun j' hj' => by
            rcases Nat.lt_or_ge j' j with h | h
            · exact hno.out j' h
            · rw [show j' = j from by omega, HP.out]; exact HNE.out), hB2'⟩
    · obtain rfl : j = 32 := by omega
      have HF := Lib.hid (begin_over hh hno.out (.inr (by omega)))
      clear hR
      go_wp2_with fail
      go_ret
      exact ⟨.inr ⟨rfl, HF.out⟩, hB⟩
/-- The numbers of those that are so. -/
def numsOf (P : Req → Bool) (rs : List Req) : List Int := (rs.filter P).map (·.num)
theorem numsOf_yes {P : Req → Bool} {rs : List Req} {j : Nat} {r : Req} (h : rs[j]? = some r) (hP : P r = true) : numsOf P (rs.take (j + 1)) = numsOf P (rs.take j) ++ [r.num] := by
  unfold numsOf; rw [take_filter_yes h hP, List.map_append]; rfl
theorem numsOf_no {P : Req → Bool} {rs : List Req} {j : Nat} {r : Req} (h : rs[j]? = some r) (hP : P r = false) : numsOf P (rs.take (j + 1)) = numsOf P (rs.take j) := by
  unfold numsOf; rw [take_filter_no h hP]
theorem numsOf_len (P : Req → Bool) (rs : List Req) (j : Nat) : (numsOf P (rs.take j)).length ≤ j := by
  unfold numsOf
  rw [List.length_map]
  refine Nat.le_trans (List.length_filter_le _ _) ?_
  rw [List.length_take]
  exact Nat.min_le_left _ _
set_option maxRecDepth 100000 in
set_option maxHeartbeats 4000000 in
/-- The ready requests of a kind to a page that are not alone. -/
theorem group_r (w : World) {q : Nat} {t : St} {l : List RR} {told : List Int} {fs : List (Cmd × Value)} {rv tv fv dv : Value} (h : RB w q t l told fs rv tv fv dv) (hl : l.map (·.r) = t.rs) (hs : t.rs.Pairwise (·.num < ·.num)) (hlen : l.length ≤ 1000000) (p : Nat) (wt : Bool) :
    Calls Tryz.prog 126 #[ptr q, .int .i64 p, .bool wt] w fun y w' => ∃ v, y = .returned v ∧ w'.ownsRow w.heap.size 3 1 v (numsOf (readyK t.now t.rs wt p) t.rs).length ((numsOf (readyK t.now t.rs wt p) t.rs).map fun n => Value.int .i64 n) ∧ Below w.heap.size w w' := by
  obtain ⟨ra, rc, rfl⟩ := own_slice h.reqs
  obtain ⟨m, hm⟩ : ∃ m, l.length = m := ⟨_, rfl⟩
  rw [hm] at h hlen
  have HR := Lib.hid h
  obtain ⟨P, hP⟩ : ∃ P, readyK t.now t.rs wt p = P := ⟨_, rfl⟩
  rw [hP]
  have HPP := Lib.hid hP
  obtain ⟨i0, hi, hz0, hz1, hz2⟩ := info_parts Tryz.infoI2
  clear h hP
  go_enter Tryz.func126, Tryz.ntmps126
  go_wp2_with fail
  go_loopg [7, 8] m (fun kk out i wx => ∃ j, kk = m - j ∧ j ≤ m ∧ i = .int .i64 j ∧ wx.ownsRow w.heap.size 3 1 out (numsOf P (t.rs.take j)).length ((numsOf P (t.rs.take j)).map fun n => Value.int .i64 n) ∧ Below w.heap.size w wx)
  case atStart => exact ⟨0, by simp, by omega, rfl, by simpa [numsOf] using World.ownsRow_nil _ _ _ _, Below.refl _ _⟩
  case round =>
    obtain ⟨j, rfl, hj, rfl, hrow, hB⟩ := hrel
    have hR := HR.out.below hB
    have d1 := hR.c1
    by_cases hlt : j < m
    · have hltI : (j : Int) < (m : Int) := by omega
      have hj0 : (0 : Int) ≤ (j : Int) := by omega
      obtain ⟨y, hy⟩ : ∃ y, l[j]? = some y := ⟨_, List.getElem?_eq_getElem (by omega)⟩
      have hyr : t.rs[j]? = some y.r := by rw [← hl, List.getElem?_map, hy]; rfl
      have HC := Lib.hid (ready_r wr hR hl hs (by omega) hy)
      obtain ⟨br, hbr⟩ : ∃ br, isReadyR t.now t.rs y.r = br := ⟨_, rfl⟩
      have hPy : P y.r = ((br && (y.r.page == (p : Int))) && ((y.r.write == wt) && !y.r.alone)) := by rw [← HPP.out]; unfold readyK readyP isKindR; rw [hbr]
      have HBR := Lib.hid hbr
      have HYR := Lib.hid hyr
      have HROW := Lib.hid hrow
      clear hbr hyr hrow
      go_wp2_with fail
      refine HC.out.mono ?_
      rintro z w2 ⟨rfl, hB2⟩
      rw [HBR.out]
      have hBw := hB.trans (hB2.mono hB.size)
      have hR2 := HR.out.below hBw
      have d2 := hR2.c1
      have hrow2 := ownsRow_chg HROW.out (chgB hB2 fun _ => False) fun _ _ z => z
      obtain ⟨g, cap, e, _, _, hcell⟩ := hR2.req hy
      simp only [Value.slice.injEq] at e
      obtain ⟨rfl, hdrop, rfl⟩ := e
      clear hdrop
      have r0 : w2.cell? ⟨g, j * 10, none⟩ = some (.int .i64 y.r.num) := hcell 0 _ rfl
      have r1 : w2.cell? ⟨g, j * 10 + 1, none⟩ = some (.bool y.r.write) := hcell 1 _ rfl
      have r2 : w2.cell? ⟨g, j * 10 + 2, none⟩ = some (.int .i64 y.r.page) := hcell 2 _ rfl
      have r7 : w2.cell? ⟨g, j * 10 + 7, none⟩ = some (.bool y.r.alone) := hcell 7 _ rfl
      obtain ⟨yp, hyp⟩ : ∃ z, y.r.page = z := ⟨_, rfl⟩
      obtain ⟨yw, hyw⟩ : ∃ z, y.r.write = z := ⟨_, rfl⟩
      obtain ⟨ya, hya⟩ : ∃ z, y.r.alone = z := ⟨_, rfl⟩
      rw [hyp] at r2 hPy
      rw [hyw] at r1 hPy
      rw [hya] at r7 hPy
      have HPY := Lib.hid hPy
      have hwl := numsOf_len P t.rs j
      have HR2 := Lib.hid hrow2
      clear hR hR2 hcell hy hyp hyw hya hPy hB2 hrow2 d1
      by_cases hyes : P y.r = true
      · have hyes2 := hyes
        rw [HPY.out] at hyes2
        simp only [Bool.and_eq_true, beq_iff_eq, Bool.not_eq_true'] at hyes2
        obtain ⟨⟨rfl, rfl⟩, rfl, rfl⟩ := hyes2
        obtain ⟨mm, hmm⟩ : ∃ mm, (numsOf P (t.rs.take j)).length = mm := ⟨_, rfl⟩
        have hrow3 := HR2.out
        rw [hmm] at hrow3 hwl
        have HM := Lib.hid hmm
        have HY := Lib.hid hyes
        have hsz := hBw.size
        have hgl := lt_of_cell r0
        have hww : (yw == yw) = true := by simp
        clear hmm hyes
        go_wp2_with (at_builtin; refine wpList_append_own _ rfl _ _ 24 rfl w.heap.size 3 i0 (.int .i64 0) 1 8 Tryz.underlying24 hi hz0 hz1 hz2 rfl (by decide) _ _ _ rfl (hrow3.alloc _) ⟨w2.heap.size, 0, none⟩ 1 1 [.int .i64 y.r.num] rfl rfl (World.news_of_block (World.alloc_heap_new w2 _)) (by simp [Value.oneCell']) ?_ ?_ ?_ ?_)
        · unfold maxLen; omega
        · omega
        · simp; omega
        intro v' w3 hown' hgrow _
        have hB3 : Below w.heap.size w w3 := (hBw.alloc hBw.size _).grown hgrow (by simp; omega) (fun k ek => (hrow3.lt k ek).1)
        have HO := Lib.hid hown'
        clear hown' hgrow hrow3
        go_wp2
        go_roundg (m - (j + 1))
        case measure => omega
        case rel => exact ⟨j + 1, rfl, by omega, by go_num, by rw [numsOf_yes HYR.out HY.out, List.length_append, List.map_append, HM.out]; exact HO.out, hB3⟩
      · have hno : P y.r = false := by simpa using hyes
        have HNO := Lib.hid hno
        rw [HPY.out] at hno
        clear hyes
        by_cases hpe : yp = (p : Int)
        · cases br
          all_goals cases yw
          all_goals cases wt
          all_goals cases ya
          all_goals
            first
            | (exfalso; simp [hpe] at hno; done)
            | (clear hno
               go_wp2_with fail
               go_roundg (m - (j + 1))
               case measure => omega
               case rel => exact ⟨j + 1, rfl, by omega, by go_num, by rw [numsOf_no HYR.out HNO.out]; exact HR2.out, hBw⟩)
        · cases br
          all_goals
            clear hno
            go_wp2_with fail
            go_roundg (m - (j + 1))
            case measure => omega
            case rel => exact ⟨j + 1, rfl, by omega, by go_num, by rw [numsOf_no HYR.out HNO.out]; exact HR2.out, hBw⟩
    · obtain rfl : j = m := by omega
      have hall : t.rs.take j = t.rs := List.take_of_length_le (by rw [← hl, List.length_map]; omega)
      rw [hall] at hrow
      have HO := Lib.hid hrow
      clear hR hrow hall
      go_wp2_with fail
      go_ret
      exact ⟨_, rfl, HO.out, hB⟩
end Go.Proofs.YticobikhndlejaaGreatDoor
